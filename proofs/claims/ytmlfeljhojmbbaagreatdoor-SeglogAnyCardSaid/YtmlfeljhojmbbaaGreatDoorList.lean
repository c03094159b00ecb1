/- Walks: the disk's List; slices.Equal of names. -/
import Derived.Test.YtmlfeljhojmbbaaGreatDoorSortS
import Derived.Sort.KeysCollected
namespace Go.Proofs.YtmlfeljhojmbbaaGreatDoor
open Go.RowKit Go.Maps Go.Sort Go.Shelf
set_option linter.unusedSimpArgs false
set_option linter.unusedVariables false
set_option maxRecDepth 100000

theorem sorted_oneS {l r : List (List UInt8)} (hl : l.Pairwise (· < ·)) (hr : r.Pairwise (fun a b => a ≤ b)) (h : l.Perm r) : l = r :=
  List.Perm.eq_of_pairwise (le := fun a b => a ≤ b) (fun a b _ _ h1 h2 => List.le_antisymm h1 h2) (hl.imp fun h => List.le_of_lt h) hr h
theorem keys_wantS {w : World} {b n : Nat} {D : DataW Unit} {f : List UInt8 → Option Nat} (hown : w.ownsMap Tryz.prog 9 ptrElem b n D) (hf : ∀ s zd, D.atKey (.string s) zd = (f s).elim zd (fun g => .lit (.int .i64 (g : Int))))
    {want : List (List UInt8)} (hw : want.Pairwise (· < ·)) (hm : ∀ a, a ∈ want ↔ f a ≠ none) {ss : List (List UInt8)} (hp : ss.Perm (strKeys D)) : ss.mergeSort (fun x y => decide (x ≤ y)) = want := by
  have hhas : ∀ a, Maps.has D (.string a) = true ↔ f a ≠ none := by
    intro a
    cases h : f a with
    | none =>
      have := has_false_of_atKey (D := D) (k := .string a) fun z => (hf a z).trans (by rw [h]; rfl)
      rw [this]
      simp
    | some g =>
      have := has_true_of_atKey (D := D) (k := .string a) (y := .lit (.int .i64 (g : Int))) fun z => (hf a z).trans (by rw [h]; rfl)
      rw [this]
      simp
  have hperm : want.Perm (strKeys D) := by
    obtain ⟨es, hD, hpw, _⟩ := hown.entries name_keyed
    obtain ⟨es', hD', hko⟩ := hown.keysOf
    obtain rfl : es = es' := by rw [hD] at hD'; simpa using hD'
    subst hD
    exact perm_strKeys hpw (fun p hp => by obtain ⟨v, hv⟩ := hko p hp; obtain ⟨x, _, hx, _⟩ := Maps.keyOf_str Tryz.underlying9 hv; exact ⟨x, hx⟩) (hw.imp fun {a b} h => (show a ≠ b from fun e => List.lt_irrefl b (e ▸ h))) (fun x => by rw [hhas x, hm x])
  have hs : (ss.mergeSort (fun x y => decide (x ≤ y))).Pairwise (fun a b => a ≤ b) := by
    have := List.pairwise_mergeSort (le := fun x y : List UInt8 => decide (x ≤ y)) (fun a b c h1 h2 => by simp only [decide_eq_true_eq] at *; exact List.le_trans h1 h2) (fun a b => by simp only [Bool.or_eq_true, decide_eq_true_eq]; exact List.le_total a b) ss
    exact this.imp fun h => by simpa using h
  exact (sorted_oneS hw hs (hperm.trans (hp.symm.trans (List.mergeSort_perm ss _).symm))).symm
theorem list_calls {w : World} {gd gm n : Nat} {es : List Ent} {room short fuse : Int} (hD : DiskAt w gd gm n es room short fuse) (hn : n < 1000000000) {want : List (List UInt8)} (hw : want.Pairwise (· < ·)) (hm : ∀ a, a ∈ want ↔ lookE es a ≠ none) :
    Calls Tryz.prog 14 #[gp gd] w fun e w' => ∃ v, e = .returned v ∧ Own w' 9 1 v want.length (want.map Proofs.encStr) ∧ Below w.heap.size w w' ∧ ∀ g, v.ownBlock = some g → w.heap.size ≤ g := by
  refine (callsIn_wide (n := 6)).1 ?_
  have q0 : w.cell? ⟨gd, 0, none⟩ = some (.map (some gm)) := hD.blk.cell 0
  have HM := Shut.mk (made_calls hD)
  obtain ⟨D, hown, hf⟩ := hD.map
  have hsz := hown.size_le
  have HS := Shut.mk (sorted_callsS gm n D ptrElem w hown (by unfold maxLen; omega) (by omega))
  have HW := Shut.mk (fun (ss : List (List UInt8)) (hp : ss.Perm (strKeys D)) => keys_wantS hown hf hw (fun a => by rw [hm a]; unfold ef; cases lookE es a <;> simp) hp)
  have hfM : Fence.wide.fn 54 := trivial
  have hfK : Fence.wide.fn 60 := trivial
  have hfS : Fence.wide.fn 59 := trivial
  clear hown hf hD hsz
  refine callsIn_of_wp Tryz.func14 rfl trivial ?_ rfl
  simp only [Tryz.ntmps14, List.size_toArray, List.length_cons, List.length_nil, Nat.reduceAdd, Nat.reduceSub, Array.replicate_succ, Array.replicate_zero, List.push_toArray, List.append_toArray, List.nil_append, List.cons_append]
  gi_wp2_with (first
    | (gi_at_call 54; refine (callsIn_wide.2 HM.out).mono ?_; rintro e w' ⟨rfl, rfl⟩)
    | (gi_at_call 60; refine (keys_callsS _ _).mono ?_; rintro e w' ⟨rfl, rfl⟩)
    | (gi_at_call 59; refine HS.out.mono ?_; rintro e w' ⟨v, ss, rfl, hS, hrow, hnil, hb⟩))
  go_ret
  have e := HW.out ss hS
  rw [e] at hrow
  have hl : ss.length = want.length := by
    rw [← e]
    exact (List.length_mergeSort ss).symm
  rw [hl] at hrow
  refine ⟨v, rfl, ⟨hrow.1, ?_⟩, ((Below.refl _ w).alloc (Nat.le_refl _) _).trans (hb.mono (by simp)), ?_⟩
  · rcases hrow.2 with h | ⟨g, cap, cur, h1, h2, h3, h4, h5, h6, h7⟩
    · exact .inl h
    · exact .inr ⟨g, cap, cur, h1, h3, h4, h5, by omega, h7⟩
  · intro g hg
    rcases hrow.2 with ⟨rfl, _⟩ | ⟨g', cap, cur, rfl, h2, _⟩
    · cases hg
    · have e9 : g' = g := by simpa [Value.ownBlock] using hg
      subst e9
      simp at h2
      omega
theorem encStr_form (l : List UInt8) : Proofs.encStr l = .string ⟨l.toArray⟩ := rfl
theorem equal_names (v u : Value) (l : List (List UInt8)) (w : World) (hv : Own w 9 1 v l.length (l.map Proofs.encStr)) (hu : Own w 9 1 u l.length (l.map Proofs.encStr)) :
    Calls Tryz.prog 15 #[v, u] w fun e w' => e = .returned (.bool true) ∧ Below w.heap.size w w' := by
  obtain ⟨A, c, rfl, hra, hac, hcm, _⟩ := hv.form
  obtain ⟨B, d, rfl, hrb, hbd, hdm, _⟩ := hu.form
  unfold maxLen at hcm hdm
  have HA := Shut.mk hra
  have HB := Shut.mk hrb
  obtain ⟨N, hN⟩ : ∃ N, N = l.length := ⟨_, rfl⟩
  have HN := Shut.mk hN
  rw [← hN] at hac hbd ⊢
  clear hv hu hra hrb hN
  go_enter Tryz.func15, Tryz.ntmps15
  go_wp2_with fail
  go_loopw [13] (fun i wr => ∃ k : Nat, k ≤ N ∧ i = .int .i64 k ∧ Below w.heap.size w wr) (fun i _ => N - (intOf i).toNat)
  case atStart => exact ⟨0, Nat.zero_le _, rfl, Below.refl _ _⟩
  case round =>
    obtain ⟨k, hk, rfl, hbr⟩ := hrel
    by_cases hlt : k < N
    · have hne : l.map Proofs.encStr ≠ [] := by
        intro e
        have h0 : l.length = 0 := by simpa using congrArg List.length e
        have h9 := HN.out
        omega
      obtain ⟨a1, rfl, h1⟩ := HA.out hne
      obtain ⟨a2, rfl, h2⟩ := HB.out hne
      have hget : (l.map Proofs.encStr)[k]? = some (.string ⟨(l.getD k []).toArray⟩) := by
        rw [List.getElem?_map, List.getElem?_eq_getElem (by rw [← HN.out]; exact hlt), List.getD_eq_getElem?_getD, List.getElem?_eq_getElem (by rw [← HN.out]; exact hlt)]
        rfl
      have c1 := h1 k _ hget
      have c2 := h2 k _ hget
      have d1 := (hbr.cell (World.block_lt_of_cell? w _ c1)).trans c1
      have d2 := (hbr.cell (World.block_lt_of_cell? w _ c2)).trans c2
      generalize (⟨(l.getD k []).toArray⟩ : ByteArray) = x at d1 d2
      have hkI : (k : Int) < (N : Int) := by omega
      clear h1 h2 c1 c2 hget hne
      go_wp2_with fail
      go_region
      go_wp2_with fail
      go_roundw
      case rel => exact ⟨k + 1, by omega, by go_num, ⟨hbr.os, hbr.tape, hbr.output, hbr.size, hbr.block⟩⟩
      case measure => simp [intOf]; omega
    · obtain rfl : k = N := by omega
      go_wp2_with fail
      go_ret
      exact ⟨rfl, hbr⟩
end Go.Proofs.YtmlfeljhojmbbaaGreatDoor
