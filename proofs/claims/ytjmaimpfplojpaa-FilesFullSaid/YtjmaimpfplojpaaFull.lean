/- Walk: the law FilesFull answers true. -/
import Derived.Test.YtjmaimpfplojpaaShort
namespace Go.Proofs.Ytjmaimpfplojpaa
open Go.RowKit Go.Maps
set_option linter.unusedSimpArgs false
set_option linter.unusedVariables false
set_option maxRecDepth 100000

/-- the address holds the slices of bytes ls, each within its capacity -/
def RdC (w : World) (Al : Option Addr) (ls : List (List UInt8)) : Prop :=
  ∀ k, k < ls.length → ∃ ad A c, Al = some ad ∧ w.cell? (ad.add k) = some (.slice A (ls.getD k []).length c) ∧ RdB w A (ls.getD k []) ∧ (ls.getD k []).length ≤ c ∧ c ≤ maxLen
theorem fls_keys {es : List Ent} (h : es.Pairwise fun a b => a.key ≠ b.key) : (fls es).Pairwise fun a b => a.1 ≠ b.1 := by
  unfold fls
  rw [List.pairwise_map]
  exact h
theorem nw_keys {w0 w : World} {gd n : Nat} {S : List Fl} {room short fuse : Int} (h : Nw w0 w gd n S room short fuse) : S.Pairwise fun a b => a.1 ≠ b.1 := by
  obtain ⟨F, ⟨gm, es, h1, rfl, h2⟩, h3⟩ := h.go
  exact fls_keys h1.keys
theorem lenF_le (S : List Fl) (k : List UInt8) : lenF S k ≤ used S := by
  unfold lenF look used
  induction S with
  | nil => simp
  | cons x r ih =>
    simp only [List.find?_cons, List.map_cons, List.sum_cons]
    by_cases h : (x.1 == k) = true
    · simp [h]
    · simp only [h]
      omega
theorem map_same (S : List Fl) (k b0 : List UInt8) (sy : Nat) (h : ∀ x ∈ S, x.1 ≠ k) : (S.map fun x => if x.1 == k then (k, b0, sy) else x) = S := by
  conv => rhs; rw [← List.map_id S]
  refine List.map_congr_left fun x hx => ?_
  simp [h x hx]
theorem used_addF {S : List Fl} (hp : S.Pairwise fun a b => a.1 ≠ b.1) (k b : List UInt8) : used (addF S k b) = used S + b.length := by
  unfold addF
  cases hx : look S k with
  | none => simp [used]
  | some v =>
    obtain ⟨b0, sy⟩ := v
    simp only
    unfold look at hx
    induction S with
    | nil => simp at hx
    | cons x r ih =>
      rw [List.pairwise_cons] at hp
      rw [List.find?_cons] at hx
      by_cases h : x.1 = k
      · have hr := map_same r k (b0 ++ b) sy fun y hy e => hp.1 y hy (h.trans e.symm)
        simp [h] at hx
        simp only [used, List.map_cons, List.sum_cons] at *
        rw [hr]
        simp [h, hx]
        omega
      · have h' : (x.1 == k) = false := by simpa using h
        rw [h'] at hx
        have := ih hp.2 hx
        simp only [used, List.map_cons, List.sum_cons] at *
        rw [this]
        simp [h]
        omega
theorem names3 (w : World) (t : TypeId) (r : Nat) (h : r < 3) : ∃ nm : ByteArray, (w.alloc (.cells #[.string ⟨#[97]⟩, .string ⟨#[98]⟩, .string ⟨#[99]⟩] t)).cell? ⟨w.heap.size, r, none⟩ = some (.string nm) ∧ nameOk nm.data.toList = true ∧ nm.size ≤ reach := by
  rw [cell_of_row _ _ r _ _ _ (heap_alloc_new w _)]
  rcases r with _ | _ | _ | r
  · exact ⟨⟨#[97]⟩, rfl, by decide, by simp [ByteArray.size, reach]⟩
  · exact ⟨⟨#[98]⟩, rfl, by decide, by simp [ByteArray.size, reach]⟩
  · exact ⟨⟨#[99]⟩, rfl, by decide, by simp [ByteArray.size, reach]⟩
  · omega
set_option maxHeartbeats 1000000 in
theorem filesFull_run (a0 : Int) (Al : Option Addr) (ls : List (List UInt8)) (cl : Nat) (w : World) (hl : RdC w Al ls) (hcl : ls.length ≤ cl) (hcm : cl ≤ maxLen) :
    Calls Try.prog 3 #[.int .i64 a0, .slice Al ls.length cl] w fun e w' => e = .returned (.bool true) ∧ Below w.heap.size w w' := by
  have HL := Shut.mk hl
  clear hl
  unfold maxLen at hcm
  obtain ⟨N0, hN0, hB0⟩ := u64_nat a0
  obtain ⟨rm, hrm, hT0⟩ := tmod_nat N0 3000 (by omega)
  have hT0' : ((N0 : Int).tmod 3000) = (rm : Int) := hT0
  have hwi : IntKind.i64.wrap (rm : Int) = (rm : Int) := by rw [IntKind.wrap_i64]; omega
  clear hT0
  go_enter Try.func3, Try.ntmps3
  go_wp2_with fail
  refine (dk_new (rm : Int) w (by omega) (by omega)).mono ?_
  rintro e w1 ⟨gd, rfl, hN1⟩
  have HN1 := Shut.mk hN1
  clear hN1 hwi hT0' hB0 hN0
  obtain ⟨NL, hNL⟩ : ∃ NL, NL = ls.length := ⟨_, rfl⟩
  rw [← hNL]
  have HNL := Shut.mk hNL
  rw [← hNL] at hcl
  clear hNL
  go_wp2_with fail
  go_loopw [7, 26] (fun u i wr => ∃ k n S, k ≤ NL ∧ k ≤ 31 ∧ n ≤ k ∧ i = .int .i64 (k : Nat) ∧ u = .int .i64 (used S : Nat) ∧ used S ≤ rm ∧ Nw w wr gd n S (rm : Int) (-1) (-1)) (fun _ i _ => NL - (intOf i).toNat)
  case atStart => exact ⟨0, 0, [], Nat.zero_le _, by omega, Nat.zero_le _, rfl, rfl, Nat.zero_le _, HN1.out⟩
  case round =>
    obtain ⟨k, n, S, hk, hk31, hn, rfl, rfl, hus, hN⟩ := hrel
    have HN := Shut.mk hN
    have HK := Shut.mk (nw_keys hN)
    clear hN
    by_cases hlt : k < NL
    · by_cases h30 : k ≤ 30
      · obtain ⟨al, A, c, rfl, hcell, hrb, hbc, hcc⟩ := HL.out k (by rw [← HNL.out]; exact hlt)
        have hcell' := (HN.out.below.cell (World.block_lt_of_cell? w _ hcell)).trans hcell
        have HRB0 := Shut.mk hrb
        clear hrb hcell
        generalize ls.getD k [] = bb at hcell' HRB0 hbc
        unfold maxLen at hcc
        obtain ⟨r, hr3, hr0⟩ := tmod_nat k 3 (by omega)
        have hr1 : (k : Int).tmod 3 = (r : Int) := hr0
        have hr2 : (r : Int) < 3 := by omega
        obtain ⟨nm, hnm, hok, hsz⟩ := names3 wr 9 r hr3
        have h301 : ¬ (k : Int) > 30 := by omega
        have hmin : (if (1000 : Int) < (bb.length : Int) then (1000 : Int) else (bb.length : Int)) = ((min bb.length 1000 : Nat) : Int) := by split <;> omega
        have hmb : min bb.length 1000 ≤ c := by omega
        have hmb2 : min bb.length 1000 ≤ 1000 := by omega
        have HTK := Shut.mk (show (bb.take (min bb.length 1000)).length = min bb.length 1000 by rw [List.length_take]; omega)
        have HRB := Shut.mk (HRB0.out.take (min bb.length 1000))
        generalize min bb.length 1000 = m at hmin hmb hmb2 HTK HRB
        generalize bb.take m = bt at HTK HRB
        have HNA := Shut.mk (nw_alloc HN.out (.cells #[.string ⟨#[97]⟩, .string ⟨#[98]⟩, .string ⟨#[99]⟩] 9))
        clear hr0 HRB0
        have hLS := lenF_le S nm.data.toList
        have hap : appLen (-1) m = m := by simp [appLen]
        have HUA := Shut.mk (used_addF HK.out nm.data.toList bt)
        have htk : bt.take m = bt := List.take_of_length_le (by rw [HTK.out]; exact Nat.le_refl _)
        by_cases hfit : used S + m ≤ rm
        · have hA := nw_append HNA.out nm A m c bt hsz (by omega) (by omega) hok (by omega) (rdB_nw HNA.out HRB.out) HTK.out hmb (by unfold reach; omega) (by omega) (by omega) (by omega) (by omega) (by omega) (by rw [hap]; omega) (by rw [hap]; omega)
          rw [hap, if_neg (Nat.lt_irrefl m), htk] at hA
          have HAA := Shut.mk hA
          clear hA hap htk hok hsz hLS
          generalize addF S nm.data.toList bt = S' at HAA HUA
          generalize used S = U at HUA hfit hus ⊢
          go_wp2_with fail
          refine HAA.out.mono ?_
          rintro e w3 ⟨rfl, hN3⟩
          have HN3 := Shut.mk hN3
          have HU3 := Shut.mk (nw_used hN3)
          have hua := HUA.out
          rw [HTK.out] at hua
          have hg1 : ¬ (m : Int) > (rm : Int) - (U : Int) := by omega
          have hUS : (used S' : Int) = (U : Int) + (m : Int) := by omega
          clear hN3 HAA hcell' hnm hr1 hr2 hr3 hmin
          go_wp2_with fail
          refine HU3.out.mono ?_
          rintro e w4 ⟨rfl, hN4, _⟩
          rw [hUS]
          have HN4 := Shut.mk hN4
          clear hN4 HU3
          go_wp2_with fail
          go_roundw
          case rel => exact ⟨k + 1, n + 1, S', by omega, by omega, by omega, by go_num, by rw [hUS], by omega, HN4.out⟩
          case measure => simp [intOf]; omega
        · have hA := nw_append_full HNA.out nm A m c bt hsz (by omega) (by omega) hok (by omega) (rdB_nw HNA.out HRB.out) HTK.out hmb (by unfold reach; omega) (by omega) (by omega) (by omega) (by omega) (by omega) (by rw [hap]; omega)
          have HAA := Shut.mk hA
          clear hA hap htk hok hsz hLS HUA
          have HUS := Shut.mk hus
          obtain ⟨U, hU⟩ : ∃ U, U = used S := ⟨_, rfl⟩
          rw [← hU] at hfit hus ⊢
          have hUS := Shut.mk hU
          clear hU
          have hg1 : (m : Int) > (rm : Int) - (U : Int) := by omega
          go_wp2_with fail
          refine HAA.out.mono ?_
          rintro e w3 ⟨rfl, hN3⟩
          have HN3 := Shut.mk hN3
          clear hN3 HAA hcell' hnm hr1 hr2 hr3 hmin
          go_wp2_with fail
          go_roundw
          case rel => exact ⟨k + 1, n + 1, S, by omega, by omega, by omega, by go_num, by rw [hUS.out], HUS.out, HN3.out⟩
          case measure => simp [intOf]; omega
      · have h301 : (k : Int) > 30 := by omega
        obtain ⟨al, A, c, rfl, hcell, _⟩ := HL.out k (by rw [← HNL.out]; exact hlt)
        have hcell' := (HN.out.below.cell (World.block_lt_of_cell? w _ hcell)).trans hcell
        clear hcell
        have HU3 := Shut.mk (nw_used HN.out)
        have hle : (used S : Int) ≤ (rm : Int) := by omega
        go_wp2_with fail
        refine HU3.out.mono ?_
        rintro e w4 ⟨rfl, hN4, _⟩
        have HR := Shut.mk (nw_room hN4 (rm : Int) (by omega) (by omega))
        clear hN4 HU3
        go_wp2_with fail
        refine HR.out.mono ?_
        rintro e w5 ⟨rfl, hN5⟩
        go_wp2_with fail
        go_ret
        exact ⟨rfl, hN5.below⟩
    · have hno : ¬ (k : Int) < (NL : Int) := by omega
      have HU3 := Shut.mk (nw_used HN.out)
      have hle : (used S : Int) ≤ (rm : Int) := by omega
      go_wp2_with fail
      refine HU3.out.mono ?_
      rintro e w4 ⟨rfl, hN4, _⟩
      have HR := Shut.mk (nw_room hN4 (rm : Int) (by omega) (by omega))
      clear hN4 HU3
      go_wp2_with fail
      refine HR.out.mono ?_
      rintro e w5 ⟨rfl, hN5⟩
      go_wp2_with fail
      go_ret
      exact ⟨rfl, hN5.below⟩
end Go.Proofs.Ytjmaimpfplojpaa
