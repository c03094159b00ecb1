/- Walks: the document's disk: Used, burn, Synced, New, Short, Room, Fuse. -/
import Derived.Test.YtjmaimpfplojpaaRd2
namespace Go.Proofs.Ytjmaimpfplojpaa
open Go.RowKit Go.Maps
set_option linter.unusedSimpArgs false
set_option linter.unusedVariables false
set_option maxRecDepth 100000

def usedR (R : List RF) : Nat := (R.map fun c => c.b.length).sum
theorem usedR_fl (R : List RF) : used (R.map RF.fl) = usedR R := by simp [used, usedR, RF.fl, Function.comp_def]
theorem usedR_take {R : List RF} {k : Nat} {c : RF} (h : R[k]? = some c) : usedR (R.take (k + 1)) = usedR (R.take k) + c.b.length := by
  unfold usedR
  rw [List.take_add_one, h]
  simp
theorem usedR_le (R : List RF) (k : Nat) : usedR (R.take k) ≤ usedR R := by
  unfold usedR
  have e : R.map (fun c => c.b.length) = (R.take k).map (fun c => c.b.length) ++ (R.drop k).map (fun c => c.b.length) := by rw [← List.map_append, List.take_append_drop]
  rw [e, List.sum_append]
  omega
section
variable {w w' : World} {gx : Nat} {v : Value} {R : List RF} {room short fuse : Int}
set_option maxHeartbeats 1000000 in
theorem rused_calls (hR : RdAt w gx v R room short fuse) (hl : R.length < 1000000) (hu : usedR R ≤ 1099511627776) :
    Calls Try.prog 50 #[.pointer (some ⟨gx, 0, none⟩)] w fun e w' => e = .returned (.int .i64 (usedR R : Int)) ∧ Below w.heap.size w w' := by
  obtain ⟨N, hN⟩ : ∃ N, N = R.length := ⟨_, rfl⟩
  have ho := hR.own
  have q0 : w.cell? ⟨gx, 0, none⟩ = some v := hR.blk.cell 0
  rw [← hN] at ho hl
  obtain ⟨A, c, rfl, hrd, hac, hcm, _⟩ := ho.form
  have HRD := Shut.mk hrd
  have HN := Shut.mk hN
  have HU := Shut.mk (fun k => Nat.le_trans (usedR_le R k) hu)
  unfold maxLen at hcm
  clear hR ho hrd hN hu
  go_enter Try.func50, Try.ntmps50
  go_wp2_with fail
  go_loopw [3, 11] (fun t i wr => ∃ k : Nat, k ≤ N ∧ i = .int .i64 k ∧ t = .int .i64 (usedR (R.take k) : Int) ∧ Below w.heap.size w wr) (fun _ i _ => N - (intOf i).toNat)
  case atStart => exact ⟨0, Nat.zero_le _, rfl, by simp [usedR], Below.refl _ _⟩
  case round =>
    obtain ⟨k, hk, rfl, rfl, hbr⟩ := hrel
    have HBR := Shut.mk hbr
    by_cases hlt : k < N
    · obtain ⟨cc, hcc⟩ : ∃ cc, R[k]? = some cc := ⟨R[k]'(by rw [← HN.out]; exact hlt), List.getElem?_eq_getElem _⟩
      obtain ⟨ad, rfl, d0, d1, d2⟩ := rf_cells HRD.out hcc hbr
      have hkI : (k : Int) < (N : Int) := by omega
      have hsu := usedR_take hcc
      have hb1 := HU.out (k + 1)
      obtain ⟨u0, hu0⟩ : ∃ u0, u0 = usedR (R.take k) := ⟨_, rfl⟩
      obtain ⟨u1, hu1⟩ : ∃ u1, u1 = usedR (R.take (k + 1)) := ⟨_, rfl⟩
      rw [← hu0, ← hu1] at hsu
      rw [← hu1] at hb1
      rw [← hu0]
      have HU1 := Shut.mk hu1
      have HSU := Shut.mk hsu
      clear hu0 hu1 hcc
      have hwr : IntKind.i64.wrap ((u0 : Int) + (cc.b.length : Int)) = (u1 : Int) := by rw [IntKind.wrap_i64]; omega
      clear hsu
      go_wp2_with fail
      go_roundw
      case rel => exact ⟨k + 1, by omega, by go_num, by rw [← HU1.out], HBR.out.trans (((Below.refl _ wr).alloc (Nat.le_refl _) _).mono HBR.out.size)⟩
      case measure => simp [intOf]; omega
    · obtain rfl : k = N := by omega
      have hkI : ¬ (k : Int) < (k : Int) := by omega
      have HT := Shut.mk (show R.take k = R by rw [HN.out, List.take_length])
      rw [HT.out]
      go_wp2_with fail
      go_ret
      exact ⟨rfl, HBR.out⟩
/-- burn: false, if the fuse is through -/
theorem burn_calls (hR : RdAt w gx v R room short fuse) (f0 : -1 ≤ fuse) (f1 : fuse ≤ 9223372036854775807) :
    Calls Try.prog 60 #[.pointer (some ⟨gx, 0, none⟩)] w fun e w' => e = .returned (.bool (decide (fuse ≠ 0))) ∧ RdAt w' gx v R room short (chFuse true fuse) ∧ Kb w w' [gx] := by
  have q3 : w.cell? ⟨gx, 3, none⟩ = some (.int .i64 fuse) := hR.blk.cell 3
  have f3 := hR.blk.free 3
  have HR := Shut.mk hR
  have hT := hR.num 3 (.int .i64 (fuse - 1)) (room' := room) (short' := short) (fuse' := fuse - 1) rfl
  have HT := Shut.mk hT
  clear hR hT
  by_cases h0 : fuse = 0
  · subst h0
    go_enter Try.func60, Try.ntmps60
    go_wp2_with fail
    go_ret
    exact ⟨rfl, HR.out, Kb.refl _ _⟩
  · by_cases h1 : 0 < fuse
    · have hw : IntKind.i64.wrap (fuse - 1) = fuse - 1 := by rw [IntKind.wrap_i64]; omega
      have e1 : chFuse true fuse = fuse - 1 := by simp [chFuse, h1]
      rw [e1, decide_eq_true h0]
      clear e1
      go_enter Try.func60, Try.ntmps60
      go_wp2_with fail
      go_ret
      exact ⟨rfl, HT.out, (Kb.refl w _).setCell (by simp) _⟩
    · have h1' : ¬ fuse > 0 := by omega
      have e1 : chFuse true fuse = fuse := by simp [chFuse, h1]
      rw [e1, decide_eq_true h0]
      clear e1
      go_enter Try.func60, Try.ntmps60
      go_wp2_with fail
      go_ret
      exact ⟨rfl, HR.out, Kb.refl _ _⟩
theorem placeV_cases (R : List RF) (s : List UInt8) : (∃ c, R[idxD R s]? = some c ∧ c.k.data.toList = s ∧ idxD R s < R.length ∧ placeV R s = (idxD R s : Int) ∧ look (R.map RF.fl) s = some (c.b, c.syn)) ∨ (placeV R s = -1 ∧ look (R.map RF.fl) s = none) := by
  by_cases hi : idxD R s < R.length
  · obtain ⟨c, h1, h2⟩ := rf_at hi
    exact .inl ⟨c, h1, h2, hi, by simp [placeV, hi], by rw [look_idx, h1]; rfl⟩
  · exact .inr ⟨by simp [placeV, hi], by rw [look_idx, List.getElem?_eq_none (by omega)]; rfl⟩
theorem rsynced_calls (hR : RdAt w gx v R room short fuse) (s : ByteArray) (hl : R.length < 1000000) :
    Calls Try.prog 52 #[.pointer (some ⟨gx, 0, none⟩), .string s] w fun e w' => e = .returned (.int .i64 ((((look (R.map RF.fl) s.data.toList).map (·.2)).getD 0 : Nat) : Int)) ∧ Below w.heap.size w w' := by
  have HP := Shut.mk (dplace_calls hR s hl)
  rcases placeV_cases R s.data.toList with ⟨c, hc, _, hi, hp, hk⟩ | ⟨hp, hk⟩
  · obtain ⟨g, cap, rfl, hnc, hcm, hcell⟩ := hR.head (by omega)
    have HC := Shut.mk (hcell (idxD R s.data.toList * 3 + 2) _ (rfs_get hc 2 (by omega)))
    have HB := Shut.mk hR.blk
    rw [hp] at HP
    rw [hk]
    unfold maxLen at hcm
    obtain ⟨k, hk⟩ : ∃ k, k = idxD R s.data.toList := ⟨_, rfl⟩
    rw [← hk] at HP HC hi
    have hgl : g < w.heap.size := World.block_lt_of_cell? w _ HC.out
    clear hcell hc hR hk hp
    go_enter Try.func52, Try.ntmps52
    go_wp2_with fail
    refine HP.out.mono ?_
    rintro e w1 ⟨rfl, hb1⟩
    have c0 : w1.cell? ⟨gx, 0, none⟩ = some (.slice (some ⟨g, 0, none⟩) R.length cap) := (hb1.cell HB.out.lt).trans (HB.out.cell 0)
    have c1 : w1.cell? ⟨g, k * 3 + 2, none⟩ = some (.int .i64 (c.syn : Int)) := (hb1.cell hgl).trans HC.out
    have hkI : (k : Int) < (R.length : Int) := by omega
    have hk0 : ¬ (k : Int) < 0 := by omega
    have hkm : R.length < 1000000 := hl
    go_wp2_with fail
    go_ret
    exact ⟨rfl, hb1⟩
  · rw [hp] at HP
    rw [hk]
    clear hR hp hk
    go_enter Try.func52, Try.ntmps52
    go_wp2_with fail
    refine HP.out.mono ?_
    rintro e w1 ⟨rfl, hb1⟩
    go_wp2_with fail
    go_ret
    exact ⟨rfl, hb1⟩
theorem rshort_calls (hR : RdAt w gx v R room short fuse) (x : Int) : Calls Try.prog 45 #[.pointer (some ⟨gx, 0, none⟩), .int .i64 x] w fun e w' =>
    e = .returned (.int .i64 (if x < 0 then 1 else 0)) ∧ RdAt w' gx v R room (if x < 0 then short else x) fuse ∧ Kb w w' [gx] := by
  have q3 : w.cell? ⟨gx, 2, none⟩ = some (.int .i64 short) := hR.blk.cell 2
  have f3 := hR.blk.free 2
  have HR := Shut.mk hR
  have HT := Shut.mk (hR.num 2 (.int .i64 x) (room' := room) (short' := x) (fuse' := fuse) rfl)
  clear hR
  by_cases h : x < 0
  · rw [if_pos h, if_pos h]
    go_enter Try.func45, Try.ntmps45
    go_wp2_with fail
    go_ret
    exact ⟨rfl, HR.out, Kb.refl _ _⟩
  · rw [if_neg h, if_neg h]
    go_enter Try.func45, Try.ntmps45
    go_wp2_with fail
    go_ret
    exact ⟨rfl, HT.out, (Kb.refl w _).setCell (by simp) _⟩
theorem rfuse_calls (hR : RdAt w gx v R room short fuse) (x : Int) : Calls Try.prog 47 #[.pointer (some ⟨gx, 0, none⟩), .int .i64 x] w fun e w' =>
    e = .returned (.int .i64 (if x < 0 then 1 else 0)) ∧ RdAt w' gx v R room short (if x < 0 then fuse else x) ∧ Kb w w' [gx] := by
  have q3 : w.cell? ⟨gx, 3, none⟩ = some (.int .i64 fuse) := hR.blk.cell 3
  have f3 := hR.blk.free 3
  have HR := Shut.mk hR
  have HT := Shut.mk (hR.num 3 (.int .i64 x) (room' := room) (short' := short) (fuse' := x) rfl)
  clear hR
  by_cases h : x < 0
  · rw [if_pos h, if_pos h]
    go_enter Try.func47, Try.ntmps47
    go_wp2_with fail
    go_ret
    exact ⟨rfl, HR.out, Kb.refl _ _⟩
  · rw [if_neg h, if_neg h]
    go_enter Try.func47, Try.ntmps47
    go_wp2_with fail
    go_ret
    exact ⟨rfl, HT.out, (Kb.refl w _).setCell (by simp) _⟩
theorem rroom_calls (hR : RdAt w gx v R room short fuse) (x : Int) : Calls Try.prog 46 #[.pointer (some ⟨gx, 0, none⟩), .int .i64 x] w fun e w' =>
    e = .returned (.int .i64 (if x < 0 ∨ 1099511627776 < x then 1 else 0)) ∧ RdAt w' gx v R (if x < 0 ∨ 1099511627776 < x then room else x) short fuse ∧ Kb w w' [gx] := by
  have q3 : w.cell? ⟨gx, 1, none⟩ = some (.int .i64 room) := hR.blk.cell 1
  have f3 := hR.blk.free 1
  have HR := Shut.mk hR
  have HT := Shut.mk (hR.num 1 (.int .i64 x) (room' := x) (short' := short) (fuse' := fuse) rfl)
  clear hR
  by_cases h : x < 0
  · rw [if_pos (.inl h), if_pos (.inl h)]
    go_enter Try.func46, Try.ntmps46
    go_wp2_with fail
    go_ret
    exact ⟨rfl, HR.out, Kb.refl _ _⟩
  · by_cases h2 : 1099511627776 < x
    · rw [if_pos (.inr h2), if_pos (.inr h2)]
      go_enter Try.func46, Try.ntmps46
      go_wp2_with fail
      go_ret
      exact ⟨rfl, HR.out, Kb.refl _ _⟩
    · rw [if_neg (by omega), if_neg (by omega)]
      go_enter Try.func46, Try.ntmps46
      go_wp2_with fail
      go_ret
      exact ⟨rfl, HT.out, (Kb.refl w _).setCell (by simp) _⟩
/-- New: a disk without files -/
theorem rnew_calls (room : Int) (w : World) (h0 : 0 ≤ room) (h1 : room ≤ 1099511627776) :
    Calls Try.prog 28 #[.int .i64 room] w fun e w' => ∃ gx, e = .returned (.tuple #[.pointer (some ⟨gx, 0, none⟩), .int .i64 0]) ∧ RdAt w' gx (.slice none 0 0) [] room (-1) (-1) ∧ Below w.heap.size w w' ∧ w.heap.size ≤ gx := by
  have g0 : ¬ room < 0 := by omega
  have g1 : ¬ room > 1099511627776 := by omega
  go_enter Try.func28, Try.ntmps28
  go_wp2_with fail
  go_ret2
  exact ⟨_, rfl, ⟨Blk.new _ _ _, Own.nil _ _ _, by simp⟩, (Below.refl _ w).alloc (Nat.le_refl _) _, Nat.le_refl _⟩
theorem rnew_bad (room : Int) (w : World) (h : room < 0 ∨ 1099511627776 < room) :
    Calls Try.prog 28 #[.int .i64 room] w fun e w' => e = .returned (.tuple #[.pointer none, .int .i64 1]) ∧ w = w' := by
  by_cases h0 : room < 0
  · clear h
    go_enter Try.func28, Try.ntmps28
    go_wp2_with fail
    go_ret2
    exact ⟨rfl, rfl⟩
  · have h2 : room > 1099511627776 := by omega
    clear h
    go_enter Try.func28, Try.ntmps28
    go_wp2_with fail
    go_ret2
    exact ⟨rfl, rfl⟩
end
end Go.Proofs.Ytjmaimpfplojpaa
