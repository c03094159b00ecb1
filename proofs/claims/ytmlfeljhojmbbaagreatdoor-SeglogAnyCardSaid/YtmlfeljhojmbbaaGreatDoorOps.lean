/- Walks: the disk's Sync, Remove, Rename. -/
import Derived.Test.YtmlfeljhojmbbaaGreatDoorNew
namespace Go.Proofs.YtmlfeljhojmbbaaGreatDoor
open Go.RowKit Go.Maps
set_option linter.unusedSimpArgs false
set_option linter.unusedVariables false
set_option maxRecDepth 100000

/-- a file's bytes, and how many are synced, are set -/
def setF (S : List Fl) (k b : List UInt8) (sy : Nat) : List Fl := S.map fun x => if x.1 == k then (k, b, sy) else x
def delF (S : List Fl) (k : List UInt8) : List Fl := S.filter fun x => !(x.1 == k)
theorem fls_setF (es : List Ent) (x : Ent) : fls (setE es x) = setF (fls es) x.key x.b x.syn := by
  unfold fls setE setF
  rw [List.map_map, List.map_map]
  refine List.map_congr_left fun y hy => ?_
  simp only [Function.comp]
  by_cases hk : y.key = x.key
  · simp [hk, Ent.fl]
  · simp [hk, Ent.fl]
theorem fls_del (es : List Ent) (k : List UInt8) : fls (delE es k) = delF (fls es) k := by
  unfold fls delE delF
  induction es with
  | nil => rfl
  | cons y r ih =>
    simp only [List.filter_cons, List.map_cons, Ent.fl] at *
    split
    · simp only [List.map_cons, Ent.fl]
      rw [ih]
    · exact ih
section
variable {w w' : World} {gd gm n : Nat} {es : List Ent} {room short fuse : Int}
theorem after_setd {L : List Nat} {room' short' fuse' : Int} (h : DiskAt w' gd gm n es room' short' fuse') (hk : Kb w w' L) (hL : ∀ x ∈ L, x ∈ foot gd gm es) : After w w' gd gm es n (fls es) room' short' fuse' :=
  ⟨⟨es, h, rfl, fun x hx => .inl hx⟩, hk.mono hL⟩
theorem sync_stop (hD : DiskAt w gd gm n es room short fuse) (s : ByteArray) (hf : fuse = 0) : Calls Tryz.prog 24 #[gp gd, .string s] w fun e w' =>
    e = .returned (.int .i64 62) ∧ After w w' gd gm es n (fls es) room short fuse := by
  subst hf
  have HC := Shut.mk (change_calls true hD (by omega) (by omega))
  have hc : chErr true 0 = 62 := rfl
  have hc2 : chFuse true 0 = 0 := rfl
  rw [hc, hc2] at HC
  clear hD hc hc2
  go_enter Tryz.func24, Tryz.ntmps24
  go_wp2_with fail
  refine HC.out.mono ?_
  rintro e w1 ⟨rfl, hD1, hk1⟩
  have HA := Shut.mk (after_setd hD1 hk1 (by simp [foot]))
  clear hD1 hk1 HC
  go_wp2_with fail
  go_ret
  exact ⟨rfl, HA.out⟩
theorem sync_none (hD : DiskAt w gd gm n es room short fuse) (s : ByteArray) (hs : s.size ≤ reach) (hf1 : -9223372036854775808 ≤ fuse) (hf2 : fuse ≤ 9223372036854775807) (hf : fuse ≠ 0) (hx : lookE es s.data.toList = none) :
    Calls Tryz.prog 24 #[gp gd, .string s] w fun e w' => e = .returned (.int .i64 60) ∧ After w w' gd gm es n (fls es) room short (chFuse true fuse) := by
  have hc : chErr true fuse = 0 := by simp [chErr, hf]
  have hC := change_calls true hD hf1 hf2
  rw [hc] at hC
  generalize chFuse true fuse = fu at hC ⊢
  have HC := Shut.mk hC
  have HKEY := Shut.mk (name_key s hs)
  clear hD hC hc hf hf1 hf2
  go_enter Tryz.func24, Tryz.ntmps24
  go_wp2_with fail
  refine HC.out.mono ?_
  rintro e w1 ⟨rfl, hD1, hk1⟩
  have HA := Shut.mk (after_setd hD1 hk1 (by simp [foot]))
  have q0 : w1.cell? ⟨gd, 0, none⟩ = some (.map (some gm)) := hD1.blk.cell 0
  have hlk := hD1.map.look name_keyed Tryz.underlying71 (zero_file w1) HKEY.out
  unfold ef at hlk
  rw [hx] at hlk
  have hlk' : (Instr.lookup 71 (.map (some gm)) (.string s) false).run Tryz.prog w1 = .ok (.pointer none) w1 := hlk
  clear hD1 hk1 HC hlk
  go_wp2_with fail
  go_ret
  exact ⟨rfl, HA.out⟩
theorem sync_some (hD : DiskAt w gd gm n es room short fuse) (s : ByteArray) (hs : s.size ≤ reach) (hf1 : -9223372036854775808 ≤ fuse) (hf2 : fuse ≤ 9223372036854775807) (hf : fuse ≠ 0) {x : Ent} (hx : lookE es s.data.toList = some x) :
    Calls Tryz.prog 24 #[gp gd, .string s] w fun e w' => e = .returned (.int .i64 0) ∧ After w w' gd gm es n (setF (fls es) s.data.toList x.b x.b.length) room short (chFuse true fuse) := by
  have hc : chErr true fuse = 0 := by simp [chErr, hf]
  have hC := change_calls true hD hf1 hf2
  rw [hc] at hC
  generalize chFuse true fuse = fu at hC ⊢
  have HC := Shut.mk hC
  have HKEY := Shut.mk (name_key s hs)
  have HX := Shut.mk hx
  clear hD hC hc hf hf1 hf2 hx
  go_enter Tryz.func24, Tryz.ntmps24
  go_wp2_with fail
  refine HC.out.mono ?_
  rintro e w1 ⟨rfl, hD1, hk1⟩
  have HD1 := Shut.mk hD1
  have HK1 := Shut.mk hk1
  have q0 : w1.cell? ⟨gd, 0, none⟩ = some (.map (some gm)) := hD1.blk.cell 0
  have hlk := hD1.map.look name_keyed Tryz.underlying71 (zero_file w1) HKEY.out
  unfold ef at hlk
  rw [HX.out] at hlk
  have hlk' : (Instr.lookup 71 (.map (some gm)) (.string s) false).run Tryz.prog w1 = .ok (gp x.g) w1 := hlk
  have hb := hD1.file x (lookE_mem HX.out).1
  obtain ⟨Av, cv, hvv, _⟩ := (hD1.own x (lookE_mem HX.out).1).form
  have HB := Shut.mk hb
  rw [hvv] at hb
  have s0 : w1.cell? ⟨x.g, 0, none⟩ = some (.slice Av x.b.length cv) := hb.cell 0
  have s1 : w1.cell? ⟨x.g, 1, none⟩ = some (.int .i64 (x.syn : Int)) := hb.cell 1
  have f1 := hb.free 1
  clear hD1 hk1 HC hlk hb hvv
  go_wp2_with fail
  go_ret
  refine ⟨rfl, ?_⟩
  obtain ⟨hm, hke⟩ := lookE_mem HX.out
  have hk : Kb w1 (w1.setCell ⟨x.g, 1, none⟩ (.int .i64 (x.b.length : Int))) (x.g :: x.v.ownBlock.toList) := (Kb.refl w1 _).setCell (by simp) _
  have hx2 : lookE es { x with syn := x.b.length }.key = some x := by simpa [hke] using HX.out
  have hne := fun g hg => blk_own_ne HB.out (by decide) (HD1.out.own x hm) g hg
  refine ⟨⟨setE es { x with syn := x.b.length }, HD1.out.replace (x := { x with syn := x.b.length }) hx2 rfl hk (HB.out.set_ 1 _) ((HD1.out.own x hm).keep fun g hg => Below.heap_setCell w1 _ _ g (hne g hg)) (fun g hg => .inl hg) ⟨Nat.le_refl _, (HD1.out.len x hm).2⟩ ?_, ?_, ?_⟩, ?_⟩
  · have := used_set HD1.out.keys (x := { x with syn := x.b.length }) hx2
    have h2 := HD1.out.sum
    simp only at this
    omega
  · rw [fls_setF]
    simp only [hke]
  · intro y hy
    exact (foot_set (B := w.heap.size) hx2 rfl (fun g hg => .inl hg) y hy)
  · refine HK1.out.mono (L' := foot gd gm es) (by simp [foot]) |>.trans hk fun y hy => .inl ?_
    rcases List.mem_cons.1 hy with rfl | hy
    · exact foot_ent hm
    · exact foot_own hm (by simpa using hy)
theorem remove_stop (hD : DiskAt w gd gm n es room short fuse) (s : ByteArray) (hf : fuse = 0) : Calls Tryz.prog 30 #[gp gd, .string s] w fun e w' =>
    e = .returned (.int .i64 62) ∧ After w w' gd gm es n (fls es) room short fuse := by
  subst hf
  have HC := Shut.mk (change_calls true hD (by omega) (by omega))
  have hc : chErr true 0 = 62 := rfl
  have hc2 : chFuse true 0 = 0 := rfl
  rw [hc, hc2] at HC
  clear hD hc hc2
  go_enter Tryz.func30, Tryz.ntmps30
  go_wp2_with fail
  refine HC.out.mono ?_
  rintro e w1 ⟨rfl, hD1, hk1⟩
  have HA := Shut.mk (after_setd hD1 hk1 (by simp [foot]))
  clear hD1 hk1 HC
  go_wp2_with fail
  go_ret
  exact ⟨rfl, HA.out⟩
theorem remove_none (hD : DiskAt w gd gm n es room short fuse) (s : ByteArray) (hs : s.size ≤ reach) (hf1 : -9223372036854775808 ≤ fuse) (hf2 : fuse ≤ 9223372036854775807) (hf : fuse ≠ 0) (hx : lookE es s.data.toList = none) :
    Calls Tryz.prog 30 #[gp gd, .string s] w fun e w' => e = .returned (.int .i64 60) ∧ After w w' gd gm es n (fls es) room short (chFuse true fuse) := by
  have hc : chErr true fuse = 0 := by simp [chErr, hf]
  have hC := change_calls true hD hf1 hf2
  rw [hc] at hC
  generalize chFuse true fuse = fu at hC ⊢
  have HC := Shut.mk hC
  have HKEY := Shut.mk (name_key s hs)
  clear hD hC hc hf hf1 hf2
  go_enter Tryz.func30, Tryz.ntmps30
  go_wp2_with fail
  refine HC.out.mono ?_
  rintro e w1 ⟨rfl, hD1, hk1⟩
  have HA := Shut.mk (after_setd hD1 hk1 (by simp [foot]))
  have q0 : w1.cell? ⟨gd, 0, none⟩ = some (.map (some gm)) := hD1.blk.cell 0
  have hlk := hD1.map.look name_keyed Tryz.underlying71 (zero_file w1) HKEY.out
  unfold ef at hlk
  rw [hx] at hlk
  have hlk' : (Instr.lookup 71 (.map (some gm)) (.string s) false).run Tryz.prog w1 = .ok (.pointer none) w1 := hlk
  clear hD1 hk1 HC hlk
  go_wp2_with fail
  go_ret
  exact ⟨rfl, HA.out⟩
theorem foot_del {gd gm : Nat} {es : List Ent} {k : List UInt8} : ∀ y ∈ foot gd gm (delE es k), y ∈ foot gd gm es := by
  intro y hy
  simp only [foot, List.mem_cons, List.mem_flatMap] at hy ⊢
  rcases hy with h | h | ⟨z, hz, hy⟩
  · exact .inl h
  · exact .inr (.inl h)
  · exact .inr (.inr ⟨z, (delE_mem hz).1, hy⟩)
theorem remove_some (hD : DiskAt w gd gm n es room short fuse) (s : ByteArray) (hs : s.size ≤ reach) (hf1 : -9223372036854775808 ≤ fuse) (hf2 : fuse ≤ 9223372036854775807) (hf : fuse ≠ 0) {x : Ent} (hx : lookE es s.data.toList = some x) :
    Calls Tryz.prog 30 #[gp gd, .string s] w fun e w' => e = .returned (.int .i64 0) ∧ After w w' gd gm es n (delF (fls es) s.data.toList) room short (chFuse true fuse) := by
  have hc : chErr true fuse = 0 := by simp [chErr, hf]
  have hC := change_calls true hD hf1 hf2
  rw [hc] at hC
  generalize chFuse true fuse = fu at hC ⊢
  have HC := Shut.mk hC
  have HKEY := Shut.mk (name_key s hs)
  have HX := Shut.mk hx
  clear hD hC hc hf hf1 hf2 hx
  go_enter Tryz.func30, Tryz.ntmps30
  go_wp2_with fail
  refine HC.out.mono ?_
  rintro e w1 ⟨rfl, hD1, hk1⟩
  have HD1 := Shut.mk hD1
  have HK1 := Shut.mk hk1
  have q0 : w1.cell? ⟨gd, 0, none⟩ = some (.map (some gm)) := hD1.blk.cell 0
  have hlk := hD1.map.look name_keyed Tryz.underlying71 (zero_file w1) HKEY.out
  unfold ef at hlk
  rw [HX.out] at hlk
  have hlk' : (Instr.lookup 71 (.map (some gm)) (.string s) false).run Tryz.prog w1 = .ok (gp x.g) w1 := hlk
  clear hD1 hk1 HC hlk
  go_wp2_with (at_delete; refine wpList_del_fm w1 rfl _ _ 71 9 rfl _ name_keyed Tryz.underlying71 gm n _ rfl HD1.out.map _ s.data.toList rfl HKEY.out ?_; intro w2 hf2 hg2)
  go_ret
  refine ⟨rfl, ?_⟩
  have hk2 : Kb w1 w2 [gm] := Kb.of_grown hg2 (fun r hr => by cases hr; simp)
  refine ⟨⟨delE es s.data.toList, HD1.out.gone hk2 hf2, fls_del es _, fun y hy => .inl (foot_del y hy)⟩, ?_⟩
  exact (HK1.out.mono (L' := foot gd gm es) (by simp [foot])).trans hk2 fun y hy => .inl (by simp at hy; subst hy; simp [foot])
end
end Go.Proofs.YtmlfeljhojmbbaaGreatDoor
