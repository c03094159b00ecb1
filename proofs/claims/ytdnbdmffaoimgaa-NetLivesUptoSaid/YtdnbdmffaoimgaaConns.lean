/- Walks: the net's Conns; slices.Equal of numbers; Drop of what is not there; Dial of what no address is. -/
import Derived.Test.YtdnbdmffaoimgaaSortI
import Derived.Lib.SlKeysI
namespace Go.Proofs.Ytdnbdmffaoimgaa
open Go.RowKit Go.Maps Go.Sort Go.Shelf
set_option linter.unusedSimpArgs false
set_option linter.unusedVariables false
set_option maxRecDepth 100000

theorem sorted_one : ∀ {l r : List Int}, l.Pairwise (· < ·) → r.Pairwise (fun a b => a ≤ b) → l.Perm r → l = r
  | [], r, _, _, h => (List.nil_perm.1 h).symm
  | a :: l, [], _, _, h => absurd h.symm (by simp)
  | a :: l, b :: r, hl, hr, h => by
    rw [List.pairwise_cons] at hl hr
    have e : a = b := by
      have h1 : a ∈ b :: r := h.mem_iff.1 (List.mem_cons_self ..)
      have h2 : b ∈ a :: l := h.mem_iff.2 (List.mem_cons_self ..)
      rcases List.mem_cons.1 h1 with h1 | h1
      · exact h1
      · rcases List.mem_cons.1 h2 with h2 | h2
        · exact h2.symm
        · have := hr.1 a h1
          have := hl.1 b h2
          omega
    subst e
    rw [sorted_one hl.2 hr.2 (List.perm_cons a |>.1 h)]
theorem keys_want {w : World} {b n : Nat} {D : DataW Unit} {f : Lit → Option Nat} (hown : w.ownsMap Try.prog 3 ptrElem b n D) (hf : ∀ kl, WideAt.IsKeyLit kl → ∀ zd, D.atKey kl zd = (f kl).elim zd (fun g => .lit (.int .i64 (g : Int))))
    {want : List Int} (hw : want.Pairwise (· < ·)) (hm : ∀ a, a ∈ want ↔ f (kint a) ≠ none) {ss : List Int} (hp : ss.Perm (intKeys D)) : ss.mergeSort (fun x y => decide (x ≤ y)) = want := by
  have hhas : ∀ a, Maps.has D (.int .i64 a) = true ↔ f (kint a) ≠ none := by
    intro a
    cases h : f (kint a) with
    | none =>
      have := has_false_of_atKey (D := D) (k := .int .i64 a) fun z => (hf (kint a) (kint_key a) z).trans (by rw [h]; rfl)
      rw [this]
      simp
    | some g =>
      have := has_true_of_atKey (D := D) (k := .int .i64 a) (y := .lit (.int .i64 (g : Int))) fun z => (hf (kint a) (kint_key a) z).trans (by rw [h]; rfl)
      rw [this]
      simp
  have hperm : want.Perm (intKeys D) := by
    obtain ⟨es, hD, hpw, _⟩ := hown.entries net_keyed
    obtain ⟨es', hD', hko⟩ := hown.keysOf
    obtain rfl : es = es' := by rw [hD] at hD'; simpa using hD'
    subst hD
    exact perm_intKeys hpw (fun p hp => by obtain ⟨v, hv⟩ := hko p hp; obtain ⟨x, _, hx, _⟩ := Maps.keyOf_i64 Try.underlying3 hv; exact ⟨x, hx⟩) (hw.imp fun h => Int.ne_of_lt h) (fun x => by rw [hhas x, hm x])
  have hs : (ss.mergeSort (fun x y => decide (x ≤ y))).Pairwise (fun a b => a ≤ b) := by
    have := List.pairwise_mergeSort (le := fun x y : Int => decide (x ≤ y)) (fun a b c h1 h2 => by simp at *; omega) (fun a b => by simp; omega) ss
    exact this.imp fun h => by simpa using h
  exact (sorted_one hw hs (hperm.trans (hp.symm.trans (List.mergeSort_perm ss _).symm))).symm
theorem conns_calls (gn gm last n : Nat) (f : Lit → Option Nat) (w : World) (hN : NetAt w gn gm last n f) (hn : n < 1000000) {want : List Int} (hw : want.Pairwise (· < ·)) (hm : ∀ a, a ∈ want ↔ f (kint a) ≠ none) :
    Calls Try.prog 15 #[.pointer (some ⟨gn, 0, none⟩)] w fun e w' => ∃ v, e = .returned v ∧ Own w' 3 1 v want.length (want.map encZ) ∧ Below w.heap.size w w' ∧ ∀ g, v.ownBlock = some g → w.heap.size ≤ g := by
  refine (callsIn_wide (n := 6)).1 ?_
  have q0 : w.cell? ⟨gn, 0, none⟩ = some (.map (some gm)) := hN.blk.cell 0
  obtain ⟨D, hown, hf⟩ := hN.map
  have hsz := hown.size_le
  have HS := Shut.mk (sorted_callsI gm n D ptrElem w hown (by unfold maxLen; omega) (by omega))
  have HW := Shut.mk (fun (ss : List Int) (hp : ss.Perm (intKeys D)) => keys_want hown hf hw hm hp)
  have hfK : Fence.wide.fn 25 := trivial
  have hfS : Fence.wide.fn 24 := trivial
  clear hown hf hN hsz
  refine callsIn_of_wp Try.func15 rfl trivial ?_ rfl
  simp only [Try.ntmps15, List.size_toArray, List.length_cons, List.length_nil, Nat.reduceAdd, Nat.reduceSub, Array.replicate_succ, Array.replicate_zero, List.push_toArray, List.append_toArray, List.nil_append, List.cons_append]
  gi_wp2_with (first
    | (gi_at_call 25; refine (keys_callsI _ _).mono ?_; rintro e w' ⟨rfl, rfl⟩)
    | (gi_at_call 24; refine HS.out.mono ?_; rintro e w' ⟨v, ss, rfl, hS, hrow, hnil, hb⟩))
  go_ret
  have e := HW.out ss hS
  rw [e] at hrow
  have hl : ss.length = want.length := by
    rw [← e]
    exact (List.length_mergeSort ss).symm
  rw [hl] at hrow
  refine ⟨v, rfl, ⟨hrow.1, ?_⟩, ((Below.refl _ w).alloc (Nat.le_refl _) _).trans (hb.mono (by simp)), ?_⟩
  · rcases hrow.2 with h | ⟨g, cap, cur, h1, h2, h3, h4, h5, h6, h7⟩
    · exact .inl h
    · exact .inr ⟨g, cap, cur, h1, h3, h4, h5, by omega, h7⟩
  · intro g hg
    rcases hrow.2 with ⟨rfl, _⟩ | ⟨g', cap, cur, rfl, h2, _⟩
    · cases hg
    · have e9 : g' = g := by simpa [Value.ownBlock] using hg
      subst e9
      simp at h2
      omega
theorem conns_nil (w : World) : Calls Try.prog 15 #[.pointer none] w fun e w' => e = .returned (.slice none 0 0) ∧ w = w' := by
  go_enter Try.func15, Try.ntmps15
  go_wp2_with fail
  go_ret
  exact ⟨rfl, rfl⟩
theorem conns_empty (gn : Nat) (w : World) (hb : Blk w gn 46 #[.map none, .int .i64 0]) : Calls Try.prog 15 #[.pointer (some ⟨gn, 0, none⟩)] w fun e w' => e = .returned (.slice none 0 0) ∧ Below w.heap.size w w' := by
  refine (callsIn_wide (n := 6)).1 ?_
  have q0 : w.cell? ⟨gn, 0, none⟩ = some (.map none) := hb.cell 0
  have HS := Shut.mk (sorted_nilI w)
  have hfK : Fence.wide.fn 25 := trivial
  have hfS : Fence.wide.fn 24 := trivial
  refine callsIn_of_wp Try.func15 rfl trivial ?_ rfl
  simp only [Try.ntmps15, List.size_toArray, List.length_cons, List.length_nil, Nat.reduceAdd, Nat.reduceSub, Array.replicate_succ, Array.replicate_zero, List.push_toArray, List.append_toArray, List.nil_append, List.cons_append]
  gi_wp2_with (first
    | (gi_at_call 25; refine (keys_callsI _ _).mono ?_; rintro e w' ⟨rfl, rfl⟩)
    | (gi_at_call 24; refine HS.out.mono ?_; rintro e w' ⟨rfl, hb⟩))
  go_ret
  exact ⟨rfl, ((Below.refl _ w).alloc (Nat.le_refl _) _).trans (hb.mono (by simp))⟩
theorem equal_ints (v u : Value) (l : List Int) (w : World) (hv : Own w 3 1 v l.length (l.map encZ)) (hu : Own w 3 1 u l.length (l.map encZ)) :
    Calls Try.prog 14 #[v, u] w fun e w' => e = .returned (.bool true) ∧ Below w.heap.size w w' := by
  obtain ⟨A, c, rfl, hra, hac, hcm, _⟩ := hv.form
  obtain ⟨B, d, rfl, hrb, hbd, hdm, _⟩ := hu.form
  unfold maxLen at hcm hdm
  have HA := Shut.mk hra
  have HB := Shut.mk hrb
  obtain ⟨N, hN⟩ : ∃ N, N = l.length := ⟨_, rfl⟩
  have HN := Shut.mk hN
  rw [← hN] at hac hbd ⊢
  clear hv hu hra hrb hN
  go_enter Try.func14, Try.ntmps14
  go_wp2_with fail
  go_loopw [13] (fun i wr => ∃ k : Nat, k ≤ N ∧ i = .int .i64 k ∧ Below w.heap.size w wr) (fun i _ => N - (intOf i).toNat)
  case atStart => exact ⟨0, Nat.zero_le _, rfl, Below.refl _ _⟩
  case round =>
    obtain ⟨k, hk, rfl, hbr⟩ := hrel
    by_cases hlt : k < N
    · have hne : l.map encZ ≠ [] := by
        intro e
        have h0 : l.length = 0 := by simpa using congrArg List.length e
        have h9 := HN.out
        omega
      obtain ⟨a1, rfl, h1⟩ := HA.out hne
      obtain ⟨a2, rfl, h2⟩ := HB.out hne
      have hget : (l.map encZ)[k]? = some (encZ (l.getD k 0)) := by
        rw [List.getElem?_map, List.getElem?_eq_getElem (by rw [← HN.out]; exact hlt), List.getD_eq_getElem?_getD, List.getElem?_eq_getElem (by rw [← HN.out]; exact hlt)]
        rfl
      have c1 := h1 k _ hget
      have c2 := h2 k _ hget
      have d1 : wr.cell? (a1.add k) = some (.int .i64 (l.getD k 0)) := (hbr.cell (World.block_lt_of_cell? w _ c1)).trans c1
      have d2 : wr.cell? (a2.add k) = some (.int .i64 (l.getD k 0)) := (hbr.cell (World.block_lt_of_cell? w _ c2)).trans c2
      generalize l.getD k 0 = x at d1 d2
      have hkI : (k : Int) < (N : Int) := by omega
      clear h1 h2 c1 c2 hget hne
      go_wp2_with fail
      go_region
      go_wp2_with fail
      go_roundw
      case rel => exact ⟨k + 1, by omega, by go_num, ⟨hbr.os, hbr.tape, hbr.output, hbr.size, hbr.block⟩⟩
      case measure => simp [intOf]; omega
    · obtain rfl : k = N := by omega
      go_wp2_with fail
      go_ret
      exact ⟨rfl, hbr⟩
theorem drop_none (gn gm last n : Nat) (f : Lit → Option Nat) (a : Int) (w : World) (hN : NetAt w gn gm last n f) (h1 : -9223372036854775808 ≤ a) (h2 : a ≤ 9223372036854775807) (hf : f (kint a) = none) :
    Calls Try.prog 13 #[.pointer (some ⟨gn, 0, none⟩), .int .i64 a] w fun e w' => e = .returned (.int .i64 150) ∧ w = w' := by
  go_enter Try.func13, Try.ntmps13
  go_wp2_with fail
  refine (of_calls gn gm last n f a w hN h1 h2).mono ?_
  rintro e w' ⟨rfl, rfl⟩
  rw [hf]
  go_wp2_with fail
  go_ret
  exact ⟨rfl, rfl⟩
theorem dial_arg (gn gm last n : Nat) (f : Lit → Option Nat) (w : World) (hN : NetAt w gn gm last n f) :
    Calls Try.prog 8 #[.pointer (some ⟨gn, 0, none⟩), .int .i64 (-1)] w fun e w' => e = .returned (.tuple #[.int .i64 0, .int .i64 1]) ∧ w = w' := by
  have q0 : w.cell? ⟨gn, 0, none⟩ = some (.map (some gm)) := hN.blk.cell 0
  have hmn := fun w : World => run_eql_map_nil (P := Try.prog) w 44 3 55 (some gm) Try.underlying44
  go_enter Try.func8, Try.ntmps8
  go_wp2_with fail
  go_ret2
  exact ⟨rfl, rfl⟩
end Go.Proofs.Ytdnbdmffaoimgaa
