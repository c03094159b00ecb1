/- Walk: the disk's Append. -/
import Derived.Test.YtmlfeljhojmbbaaGreatDoorAdd
import Derived.BigQuiet
import Derived.Deep.RegionHeld3
namespace Go.Proofs.YtmlfeljhojmbbaaGreatDoor
open Go.RowKit Go.Maps
set_option linter.unusedSimpArgs false
set_option linter.unusedVariables false
set_option maxRecDepth 100000

section
variable {w : World} {gd gm n : Nat} {es : List Ent} {room short fuse : Int}
set_option maxHeartbeats 1000000 in
theorem append_lo1 (sh : Nat) (hD : DiskAt w gd gm n es room (sh : Int) fuse) (s : ByteArray) (A : Option Addr) (m c : Nat) (b : List UInt8) (hs : s.size ≤ reach) (hf1 : -9223372036854775808 ≤ fuse) (hf2 : fuse ≤ 9223372036854775807) (hok : nameOk s.data.toList = true) (hf : fuse ≠ 0)
    (hr : RdB w A b) (hm : b.length = m) (hmc : m ≤ c) (hml : m ≤ reach) (hn : n < 1000000000) (hr1 : 0 ≤ room) (hr2 : room ≤ 1099511627776) (hsh : m ≤ sh) (hsh2 : sh < 9223372036854775808) {x : Ent} (hx : lookE es s.data.toList = some x) (hA : 1048576 < x.b.length + m) :
    Calls Tryz.prog 21 #[gp gd, .string s, .slice A m c] w fun e w' => e = .returned (.tuple #[.int .i64 0, .int .i64 4]) ∧ After w w' gd gm es (n + 1) (fls es) room (-1) (chFuse true fuse) := by
  obtain ⟨i0, hi, hz0, hz1, hz2⟩ := info_parts info_u8
  have hN := isName_calls s w hs
  rw [hok] at hN
  have HN := Shut.mk hN
  have hch : chErr true fuse = 0 := by simp [chErr, hf]
  have HC := fun w1 (h : Below w.heap.size w w1) => change_calls true (hD.below h) hf1 hf2
  rw [hch] at HC
  generalize chFuse true fuse = fu at HC ⊢
  have HC' := Shut.mk HC
  have HKEY := Shut.mk (name_key s hs)
  have HX := Shut.mk hx
  have HUS := Shut.mk hD.sum
  have hus := hD.sum
  have HR := Shut.mk hr
  have HBM := Shut.mk hm
  have hxb := Nat.le_trans (mem_used (lookE_mem hx).1) hD.sum
  unfold reach at hml
  have HRK := Shut.mk (fun w' (h : Kb w w' [gd]) => rdB_disk hD HR.out h)
  clear hN hok hr hm hs hf hf1 hf2 hch HC
  obtain ⟨NX, hNX⟩ : ∃ NX, NX = x.b.length := ⟨_, rfl⟩
  rw [← hNX] at hA hxb
  have HNX := Shut.mk hNX
  clear hNX
  clear hD hx
  go_enter Tryz.func21, Tryz.ntmps21
  go_wp2_with fail
  refine HN.out.mono ?_
  rintro e w1 ⟨rfl, hb1⟩
  have HB := Shut.mk hb1
  go_wp2_with fail
  refine (HC'.out w1 hb1).mono ?_
  rintro e w2 ⟨rfl, hD2, hk2⟩
  have HK2 := Shut.mk ((Kb.of_below HB.out [gd]).trans hk2 (fun x hx => .inl hx))
  clear hk2 hb1 HC' HN
  have q0 : w2.cell? ⟨gd, 0, none⟩ = some (.map (some gm)) := hD2.blk.cell 0
  have q2 : w2.cell? ⟨gd, 2, none⟩ = some (.int .i64 (sh : Int)) := hD2.blk.cell 2
  have f2 := hD2.blk.free 2
  have hD3 := hD2.setd 2 (.int .i64 (-1)) (room' := room) (short' := -1) (fuse' := fu) rfl
  have HK3 := Shut.mk (HK2.out.setCell (p := ⟨gd, 2, none⟩) (by simp) (.int .i64 (-1)))
  have hlk := hD3.map.look name_keyed Tryz.underlying71 (zero_file _) HKEY.out
  unfold ef at hlk
  rw [HX.out] at hlk
  have hlk' : (Instr.lookup 71 (.map (some gm)) (.string s) false).run Tryz.prog (w2.setCell ⟨gd, 2, none⟩ (.int .i64 (-1))) = .ok (gp x.g) (w2.setCell ⟨gd, 2, none⟩ (.int .i64 (-1))) := hlk
  have HD3 := Shut.mk hD3
  have hs1 : ¬ ((sh : Int) = -1) := by omega
  have hs2 : ¬ ((m : Int) > (sh : Int)) := by omega
  clear hlk hD3 hD2
  go_wp2_with fail
  have hse : (w2.setCell ⟨gd, 2, none⟩ (.int .i64 (-1))).heap.size = w2.heap.size := by simp
  generalize w2.setCell ⟨gd, 2, none⟩ (.int .i64 (-1)) = w3 at HD3 HK3 hlk' hse ⊢
  clear q0 q2 f2 hlk'
  clear hse
  have hsp := HD3.out.file x (lookE_mem HX.out).1
  obtain ⟨Av, cv, hvv, _⟩ := (HD3.out.own x (lookE_mem HX.out).1).form
  rw [hvv, ← HNX.out] at hsp
  have HVV := Shut.mk hvv
  have hown := HD3.out.own x (lookE_mem HX.out).1
  rw [hvv, ← HNX.out] at hown
  have HOWN := Shut.mk hown
  have s0 : w3.cell? ⟨x.g, 0, none⟩ = some (.slice Av NX cv) := hsp.cell 0
  have s1 : w3.cell? ⟨gd, 1, none⟩ = some (.int .i64 room) := HD3.out.blk.cell 1
  have hxg := World.block_lt_of_cell? _ _ s0
  have hgd := World.block_lt_of_cell? _ _ s1
  have HFT := Shut.mk (fun y hy => HD3.out.lt (x := y) hy)
  clear hvv hsp hown
  obtain ⟨XG, hXG⟩ : ∃ XG, XG = x.g := ⟨_, rfl⟩
  rw [← hXG] at s0 hxg ⊢
  have HXG := Shut.mk hXG
  clear hXG
  have hw1 : IntKind.i64.wrap ((NX : Int) + (m : Int)) = (NX : Int) + (m : Int) := by rw [IntKind.wrap_i64]; omega
  have d1 : decide ((1048576 : Int) < (NX : Int) + (m : Int)) = true := decide_eq_true (by omega)
  go_quiet (fail)
  go_wp2_with fail
  go_ret2
  exact ⟨rfl, ⟨⟨es, (HD3.out.drewN _).more, rfl, fun y hy => .inl hy⟩, (Kb.mono HK3.out (L' := foot gd gm es) (fun y hy => by simp at hy; subst hy; simp [foot])).drewN _⟩⟩
set_option maxHeartbeats 1000000 in
theorem append_lo2 (sh : Nat) (hD : DiskAt w gd gm n es room (sh : Int) fuse) (s : ByteArray) (A : Option Addr) (m c : Nat) (b : List UInt8) (hs : s.size ≤ reach) (hf1 : -9223372036854775808 ≤ fuse) (hf2 : fuse ≤ 9223372036854775807) (hok : nameOk s.data.toList = true) (hf : fuse ≠ 0)
    (hr : RdB w A b) (hm : b.length = m) (hmc : m ≤ c) (hml : m ≤ reach) (hn : n < 1000000000) (hr1 : 0 ≤ room) (hr2 : room ≤ 1099511627776) (hsh : m ≤ sh) (hsh2 : sh < 9223372036854775808) {x : Ent} (hx : lookE es s.data.toList = some x) (hA : x.b.length + m ≤ 1048576) (hB : room < usedE es + m) :
    Calls Tryz.prog 21 #[gp gd, .string s, .slice A m c] w fun e w' => e = .returned (.tuple #[.int .i64 0, .int .i64 4]) ∧ After w w' gd gm es (n + 1) (fls es) room (-1) (chFuse true fuse) := by
  obtain ⟨i0, hi, hz0, hz1, hz2⟩ := info_parts info_u8
  have hN := isName_calls s w hs
  rw [hok] at hN
  have HN := Shut.mk hN
  have hch : chErr true fuse = 0 := by simp [chErr, hf]
  have HC := fun w1 (h : Below w.heap.size w w1) => change_calls true (hD.below h) hf1 hf2
  rw [hch] at HC
  generalize chFuse true fuse = fu at HC ⊢
  have HC' := Shut.mk HC
  have HKEY := Shut.mk (name_key s hs)
  have HX := Shut.mk hx
  have HUS := Shut.mk hD.sum
  have hus := hD.sum
  have HR := Shut.mk hr
  have HBM := Shut.mk hm
  have hxb := Nat.le_trans (mem_used (lookE_mem hx).1) hD.sum
  unfold reach at hml
  have HRK := Shut.mk (fun w' (h : Kb w w' [gd]) => rdB_disk hD HR.out h)
  clear hN hok hr hm hs hf hf1 hf2 hch HC
  obtain ⟨NX, hNX⟩ : ∃ NX, NX = x.b.length := ⟨_, rfl⟩
  rw [← hNX] at hA hxb
  have HNX := Shut.mk hNX
  clear hNX
  clear hD hx
  go_enter Tryz.func21, Tryz.ntmps21
  go_wp2_with fail
  refine HN.out.mono ?_
  rintro e w1 ⟨rfl, hb1⟩
  have HB := Shut.mk hb1
  go_wp2_with fail
  refine (HC'.out w1 hb1).mono ?_
  rintro e w2 ⟨rfl, hD2, hk2⟩
  have HK2 := Shut.mk ((Kb.of_below HB.out [gd]).trans hk2 (fun x hx => .inl hx))
  clear hk2 hb1 HC' HN
  have q0 : w2.cell? ⟨gd, 0, none⟩ = some (.map (some gm)) := hD2.blk.cell 0
  have q2 : w2.cell? ⟨gd, 2, none⟩ = some (.int .i64 (sh : Int)) := hD2.blk.cell 2
  have f2 := hD2.blk.free 2
  have hD3 := hD2.setd 2 (.int .i64 (-1)) (room' := room) (short' := -1) (fuse' := fu) rfl
  have HK3 := Shut.mk (HK2.out.setCell (p := ⟨gd, 2, none⟩) (by simp) (.int .i64 (-1)))
  have hlk := hD3.map.look name_keyed Tryz.underlying71 (zero_file _) HKEY.out
  unfold ef at hlk
  rw [HX.out] at hlk
  have hlk' : (Instr.lookup 71 (.map (some gm)) (.string s) false).run Tryz.prog (w2.setCell ⟨gd, 2, none⟩ (.int .i64 (-1))) = .ok (gp x.g) (w2.setCell ⟨gd, 2, none⟩ (.int .i64 (-1))) := hlk
  have HD3 := Shut.mk hD3
  have hs1 : ¬ ((sh : Int) = -1) := by omega
  have hs2 : ¬ ((m : Int) > (sh : Int)) := by omega
  clear hlk hD3 hD2
  go_wp2_with fail
  have hse : (w2.setCell ⟨gd, 2, none⟩ (.int .i64 (-1))).heap.size = w2.heap.size := by simp
  generalize w2.setCell ⟨gd, 2, none⟩ (.int .i64 (-1)) = w3 at HD3 HK3 hlk' hse ⊢
  clear q0 q2 f2 hlk'
  clear hse
  have hsp := HD3.out.file x (lookE_mem HX.out).1
  obtain ⟨Av, cv, hvv, _⟩ := (HD3.out.own x (lookE_mem HX.out).1).form
  rw [hvv, ← HNX.out] at hsp
  have HVV := Shut.mk hvv
  have hown := HD3.out.own x (lookE_mem HX.out).1
  rw [hvv, ← HNX.out] at hown
  have HOWN := Shut.mk hown
  have s0 : w3.cell? ⟨x.g, 0, none⟩ = some (.slice Av NX cv) := hsp.cell 0
  have s1 : w3.cell? ⟨gd, 1, none⟩ = some (.int .i64 room) := HD3.out.blk.cell 1
  have hxg := World.block_lt_of_cell? _ _ s0
  have hgd := World.block_lt_of_cell? _ _ s1
  have HFT := Shut.mk (fun y hy => HD3.out.lt (x := y) hy)
  clear hvv hsp hown
  obtain ⟨XG, hXG⟩ : ∃ XG, XG = x.g := ⟨_, rfl⟩
  rw [← hXG] at s0 hxg ⊢
  have HXG := Shut.mk hXG
  clear hXG
  have hw1 : IntKind.i64.wrap ((NX : Int) + (m : Int)) = (NX : Int) + (m : Int) := by rw [IntKind.wrap_i64]; omega
  have d1 : decide ((1048576 : Int) < (NX : Int) + (m : Int)) = false := decide_eq_false (by omega)
  have HU0 := Shut.mk (used_calls (w := w3.drew) (HD3.out.below ⟨rfl, rfl, rfl, Nat.le_refl _, fun _ _ => rfl⟩))
  have hw2 : IntKind.i64.wrap ((usedE es : Int) + (m : Int)) = (usedE es : Int) + (m : Int) := by rw [IntKind.wrap_i64]; omega
  have d2 : decide (room < (usedE es : Int) + (m : Int)) = true := decide_eq_true (by omega)
  go_region_held3 (fun w' => w'.cell? ⟨XG, 0, none⟩ = some (.slice Av NX cv) ∧ w'.cell? ⟨gd, 1, none⟩ = some (.int .i64 room))
    (first | exact ⟨s0, s1⟩ | exact ⟨t0, t1⟩ | go_keep)
    (first | (go_at_call 66; refine HU0.out.mono ?_; rintro e w4 ⟨rfl, hb4⟩; have t0 := (hb4.cell hxg).trans s0; have t1 := (hb4.cell hgd).trans s1))
  go_wp2_with fail
  go_ret2
  have hb4' := below_of_drew hb4
  exact ⟨rfl, ⟨⟨es, (HD3.out.below hb4').more, rfl, fun y hy => .inl hy⟩, (Kb.mono HK3.out (L' := foot gd gm es) (fun y hy => by simp at hy; subst hy; simp [foot])).below_ hb4'⟩⟩
set_option maxHeartbeats 1000000 in
theorem append_lo3 (sh : Nat) (hD : DiskAt w gd gm n es room (sh : Int) fuse) (s : ByteArray) (A : Option Addr) (m c : Nat) (b : List UInt8) (hs : s.size ≤ reach) (hf1 : -9223372036854775808 ≤ fuse) (hf2 : fuse ≤ 9223372036854775807) (hok : nameOk s.data.toList = true) (hf : fuse ≠ 0)
    (hr : RdB w A b) (hm : b.length = m) (hmc : m ≤ c) (hml : m ≤ reach) (hn : n < 1000000000) (hr1 : 0 ≤ room) (hr2 : room ≤ 1099511627776) (hsh : m ≤ sh) (hsh2 : sh < 9223372036854775808) {x : Ent} (hx : lookE es s.data.toList = some x) (hA : x.b.length + m ≤ 1048576) (hB : usedE es + m ≤ room) :
    Calls Tryz.prog 21 #[gp gd, .string s, .slice A m c] w fun e w' => e = .returned (.tuple #[.int .i64 (m : Int), .int .i64 0]) ∧ After w w' gd gm es (n + 1) (addF (fls es) s.data.toList b) room (-1) (chFuse true fuse) := by
  obtain ⟨i0, hi, hz0, hz1, hz2⟩ := info_parts info_u8
  have hN := isName_calls s w hs
  rw [hok] at hN
  have HN := Shut.mk hN
  have hch : chErr true fuse = 0 := by simp [chErr, hf]
  have HC := fun w1 (h : Below w.heap.size w w1) => change_calls true (hD.below h) hf1 hf2
  rw [hch] at HC
  generalize chFuse true fuse = fu at HC ⊢
  have HC' := Shut.mk HC
  have HKEY := Shut.mk (name_key s hs)
  have HX := Shut.mk hx
  have HUS := Shut.mk hD.sum
  have hus := hD.sum
  have HR := Shut.mk hr
  have HBM := Shut.mk hm
  have hxb := Nat.le_trans (mem_used (lookE_mem hx).1) hD.sum
  unfold reach at hml
  have HRK := Shut.mk (fun w' (h : Kb w w' [gd]) => rdB_disk hD HR.out h)
  clear hN hok hr hm hs hf hf1 hf2 hch HC
  obtain ⟨NX, hNX⟩ : ∃ NX, NX = x.b.length := ⟨_, rfl⟩
  rw [← hNX] at hA hxb
  have HNX := Shut.mk hNX
  clear hNX
  clear hD hx
  go_enter Tryz.func21, Tryz.ntmps21
  go_wp2_with fail
  refine HN.out.mono ?_
  rintro e w1 ⟨rfl, hb1⟩
  have HB := Shut.mk hb1
  go_wp2_with fail
  refine (HC'.out w1 hb1).mono ?_
  rintro e w2 ⟨rfl, hD2, hk2⟩
  have HK2 := Shut.mk ((Kb.of_below HB.out [gd]).trans hk2 (fun x hx => .inl hx))
  clear hk2 hb1 HC' HN
  have q0 : w2.cell? ⟨gd, 0, none⟩ = some (.map (some gm)) := hD2.blk.cell 0
  have q2 : w2.cell? ⟨gd, 2, none⟩ = some (.int .i64 (sh : Int)) := hD2.blk.cell 2
  have f2 := hD2.blk.free 2
  have hD3 := hD2.setd 2 (.int .i64 (-1)) (room' := room) (short' := -1) (fuse' := fu) rfl
  have HK3 := Shut.mk (HK2.out.setCell (p := ⟨gd, 2, none⟩) (by simp) (.int .i64 (-1)))
  have hlk := hD3.map.look name_keyed Tryz.underlying71 (zero_file _) HKEY.out
  unfold ef at hlk
  rw [HX.out] at hlk
  have hlk' : (Instr.lookup 71 (.map (some gm)) (.string s) false).run Tryz.prog (w2.setCell ⟨gd, 2, none⟩ (.int .i64 (-1))) = .ok (gp x.g) (w2.setCell ⟨gd, 2, none⟩ (.int .i64 (-1))) := hlk
  have HD3 := Shut.mk hD3
  have hs1 : ¬ ((sh : Int) = -1) := by omega
  have hs2 : ¬ ((m : Int) > (sh : Int)) := by omega
  clear hlk hD3 hD2
  go_wp2_with fail
  have hse : (w2.setCell ⟨gd, 2, none⟩ (.int .i64 (-1))).heap.size = w2.heap.size := by simp
  generalize w2.setCell ⟨gd, 2, none⟩ (.int .i64 (-1)) = w3 at HD3 HK3 hlk' hse ⊢
  clear q0 q2 f2 hlk'
  clear hse
  have hsp := HD3.out.file x (lookE_mem HX.out).1
  obtain ⟨Av, cv, hvv, _⟩ := (HD3.out.own x (lookE_mem HX.out).1).form
  rw [hvv, ← HNX.out] at hsp
  have HVV := Shut.mk hvv
  have hown := HD3.out.own x (lookE_mem HX.out).1
  rw [hvv, ← HNX.out] at hown
  have HOWN := Shut.mk hown
  have s0 : w3.cell? ⟨x.g, 0, none⟩ = some (.slice Av NX cv) := hsp.cell 0
  have s1 : w3.cell? ⟨gd, 1, none⟩ = some (.int .i64 room) := HD3.out.blk.cell 1
  have hxg := World.block_lt_of_cell? _ _ s0
  have hgd := World.block_lt_of_cell? _ _ s1
  have HFT := Shut.mk (fun y hy => HD3.out.lt (x := y) hy)
  clear hvv hsp hown
  obtain ⟨XG, hXG⟩ : ∃ XG, XG = x.g := ⟨_, rfl⟩
  rw [← hXG] at s0 hxg ⊢
  have HXG := Shut.mk hXG
  clear hXG
  have hw1 : IntKind.i64.wrap ((NX : Int) + (m : Int)) = (NX : Int) + (m : Int) := by rw [IntKind.wrap_i64]; omega
  have d1 : decide ((1048576 : Int) < (NX : Int) + (m : Int)) = false := decide_eq_false (by omega)
  have HU0 := Shut.mk (used_calls (w := w3.drew) (HD3.out.below ⟨rfl, rfl, rfl, Nat.le_refl _, fun _ _ => rfl⟩))
  have hw2 : IntKind.i64.wrap ((usedE es : Int) + (m : Int)) = (usedE es : Int) + (m : Int) := by rw [IntKind.wrap_i64]; omega
  have d2 : decide (room < (usedE es : Int) + (m : Int)) = false := decide_eq_false (by omega)
  go_region_held3 (fun w' => w'.cell? ⟨XG, 0, none⟩ = some (.slice Av NX cv) ∧ w'.cell? ⟨gd, 1, none⟩ = some (.int .i64 room))
    (first | exact ⟨s0, s1⟩ | exact ⟨t0, t1⟩ | go_keep)
    (first | (go_at_call 66; refine HU0.out.mono ?_; rintro e w4 ⟨rfl, hb4⟩; have t0 := (hb4.cell hxg).trans s0; have t1 := (hb4.cell hgd).trans s1))
  have hb4' := below_of_drew hb4
  have hD4 := HD3.out.below hb4'
  have HK4 := Shut.mk (HK3.out.below_ hb4')
  have hown4 : Own w4 5 1 (.slice Av NX cv) NX (bys x.b) := HOWN.out.below hb4' (fun g hg => HOWN.out.block_lt hg)
  have HR4 := Shut.mk (rd_of_rdB (HRK.out _ HK4.out))
  have HL := Shut.mk (show (bys b).length = m * 1 by rw [bys_length, HBM.out, Nat.mul_one])
  have hO := fun (A5 : Option Addr) (c5 : Nat) (w5 : World) (hap : Appended w4 w5 5 1 (.slice Av NX cv) (.slice A5 (NX + m) c5) NX m (bys x.b) (bys b)) =>
    old_end hD4 (s := s) HX.out (A5 := A5) (N := NX + m) (c5 := c5) (b := b) (by rw [HNX.out, HBM.out]) (hap.own.cast rfl (bys_append _ _).symm) (by rw [HVV.out, ← HNX.out]; exact hap.grown) (by rw [HVV.out, ← HNX.out]; exact hap.lies) (by omega) (by rw [HBM.out]; omega) HKEY.out hn
  rw [← HXG.out, HVV.out, ← HNX.out] at hO
  clear hb4 hb4' hD4 s0 s1
  have HO := Shut.mk hO
  clear hO
  go_wp2_with (
    at_builtin
    (go_loud (refine wpList_append _ rfl _ _ _ rfl 5 i0 _ 1 1 Tryz.underlying27 hi hz0 hz1 hz2 rfl (by decide) _ _ _ rfl hown4 _ m c _ rfl HL.out HR4.out (bys_one _) (by simp only [maxLen]; omega) (by omega) ?_))
    intro v5 w5 hap
    obtain ⟨A5, c5, hv5, _⟩ := hap.own.form
    subst hv5
    obtain ⟨u0, u1, u2, w7, u3, hA7⟩ := HO.out A5 c5 w5 hap
    have HA7 := Shut.mk hA7
    clear hap hA7)
  go_ret2
  exact ⟨rfl, HA7.out.from_ HK4.out (fun y hy => .inl (by simp at hy; subst hy; simp [foot]))⟩
set_option maxHeartbeats 1000000 in
theorem append_ln1 (sh : Nat) (hD : DiskAt w gd gm n es room (sh : Int) fuse) (s : ByteArray) (A : Option Addr) (m c : Nat) (b : List UInt8) (hs : s.size ≤ reach) (hf1 : -9223372036854775808 ≤ fuse) (hf2 : fuse ≤ 9223372036854775807) (hok : nameOk s.data.toList = true) (hf : fuse ≠ 0)
    (hr : RdB w A b) (hm : b.length = m) (hmc : m ≤ c) (hml : m ≤ reach) (hn : n < 1000000000) (hr1 : 0 ≤ room) (hr2 : room ≤ 1099511627776) (hsh : m ≤ sh) (hsh2 : sh < 9223372036854775808) (hx : lookE es s.data.toList = none) (hA : 1048576 < 0 + m) :
    Calls Tryz.prog 21 #[gp gd, .string s, .slice A m c] w fun e w' => e = .returned (.tuple #[.int .i64 0, .int .i64 4]) ∧ After w w' gd gm es (n + 1) (fls es) room (-1) (chFuse true fuse) := by
  obtain ⟨i0, hi, hz0, hz1, hz2⟩ := info_parts info_u8
  have hN := isName_calls s w hs
  rw [hok] at hN
  have HN := Shut.mk hN
  have hch : chErr true fuse = 0 := by simp [chErr, hf]
  have HC := fun w1 (h : Below w.heap.size w w1) => change_calls true (hD.below h) hf1 hf2
  rw [hch] at HC
  generalize chFuse true fuse = fu at HC ⊢
  have HC' := Shut.mk HC
  have HKEY := Shut.mk (name_key s hs)
  have HX := Shut.mk hx
  have HUS := Shut.mk hD.sum
  have hus := hD.sum
  have HR := Shut.mk hr
  have HBM := Shut.mk hm
  unfold reach at hml
  have HRK := Shut.mk (fun w' (h : Kb w w' [gd]) => rdB_disk hD HR.out h)
  clear hN hok hr hm hs hf hf1 hf2 hch HC
  clear hD hx
  go_enter Tryz.func21, Tryz.ntmps21
  go_wp2_with fail
  refine HN.out.mono ?_
  rintro e w1 ⟨rfl, hb1⟩
  have HB := Shut.mk hb1
  go_wp2_with fail
  refine (HC'.out w1 hb1).mono ?_
  rintro e w2 ⟨rfl, hD2, hk2⟩
  have HK2 := Shut.mk ((Kb.of_below HB.out [gd]).trans hk2 (fun x hx => .inl hx))
  clear hk2 hb1 HC' HN
  have q0 : w2.cell? ⟨gd, 0, none⟩ = some (.map (some gm)) := hD2.blk.cell 0
  have q2 : w2.cell? ⟨gd, 2, none⟩ = some (.int .i64 (sh : Int)) := hD2.blk.cell 2
  have f2 := hD2.blk.free 2
  have hD3 := hD2.setd 2 (.int .i64 (-1)) (room' := room) (short' := -1) (fuse' := fu) rfl
  have HK3 := Shut.mk (HK2.out.setCell (p := ⟨gd, 2, none⟩) (by simp) (.int .i64 (-1)))
  have hlk := hD3.map.look name_keyed Tryz.underlying71 (zero_file _) HKEY.out
  unfold ef at hlk
  rw [HX.out] at hlk
  have hlk' : (Instr.lookup 71 (.map (some gm)) (.string s) false).run Tryz.prog (w2.setCell ⟨gd, 2, none⟩ (.int .i64 (-1))) = .ok (.pointer none) (w2.setCell ⟨gd, 2, none⟩ (.int .i64 (-1))) := hlk
  have HD3 := Shut.mk hD3
  have hs1 : ¬ ((sh : Int) = -1) := by omega
  have hs2 : ¬ ((m : Int) > (sh : Int)) := by omega
  clear hlk hD3 hD2
  go_wp2_with fail
  have hse : (w2.setCell ⟨gd, 2, none⟩ (.int .i64 (-1))).heap.size = w2.heap.size := by simp
  generalize w2.setCell ⟨gd, 2, none⟩ (.int .i64 (-1)) = w3 at HD3 HK3 hlk' hse ⊢
  clear q0 q2 f2 hlk'
  have HFT := Shut.mk (fun y hy => HD3.out.lt (x := y) hy)
  have hD4 := HD3.out.below (w' := w3.alloc (.cells #[.slice none 0 0, .int .i64 0] 106)) ((Below.refl _ w3).alloc (Nat.le_refl _) _)
  have hF4 : Blk (w3.alloc (.cells #[.slice none 0 0, .int .i64 0] 106)) w3.heap.size 106 #[.slice none 0 0, .int .i64 0] := Blk.new w3 _ _
  have HK4 := Shut.mk (HK3.out.alloc (.cells #[.slice none 0 0, .int .i64 0] 106))
  have hsz : (w3.alloc (.cells #[.slice none 0 0, .int .i64 0] 106)).heap.size = w3.heap.size + 1 := World.size_alloc _ _
  obtain ⟨XG, hXG⟩ : ∃ XG, XG = w2.heap.size := ⟨_, rfl⟩
  rw [hse, ← hXG] at hF4 HFT hsz
  rw [← hXG]
  have HXG := Shut.mk (hXG.trans hse.symm)
  clear hXG hse
  have HKK := HK3
  clear HK3
  generalize w3.alloc (.cells #[.slice none 0 0, .int .i64 0] 106) = wa at hD4 hF4 HK4 hsz ⊢
  have HF4 := Shut.mk hF4
  have s0 : wa.cell? ⟨XG, 0, none⟩ = some (.slice none 0 0) := hF4.cell 0
  have s1 : wa.cell? ⟨gd, 1, none⟩ = some (.int .i64 room) := hD4.blk.cell 1
  have hxg := World.block_lt_of_cell? _ _ s0
  have hgd := World.block_lt_of_cell? _ _ s1
  have HD3' := HD3
  have HK3' := HKK
  have HD3 := Shut.mk hD4
  have HK3 := HK4
  clear hD4 hF4 HK4
  have hw1 : IntKind.i64.wrap (m : Int) = (m : Int) := by rw [IntKind.wrap_i64]; omega
  have d1 : decide ((1048576 : Int) < (m : Int)) = true := decide_eq_true (by omega)
  go_quiet (fail)
  go_wp2_with fail
  go_ret2
  exact ⟨rfl, ⟨⟨es, (HD3.out.drewN _).more, rfl, fun y hy => .inl hy⟩, (Kb.mono HK3.out (L' := foot gd gm es) (fun y hy => by simp at hy; subst hy; simp [foot])).drewN _⟩⟩
set_option maxHeartbeats 1000000 in
theorem append_ln2 (sh : Nat) (hD : DiskAt w gd gm n es room (sh : Int) fuse) (s : ByteArray) (A : Option Addr) (m c : Nat) (b : List UInt8) (hs : s.size ≤ reach) (hf1 : -9223372036854775808 ≤ fuse) (hf2 : fuse ≤ 9223372036854775807) (hok : nameOk s.data.toList = true) (hf : fuse ≠ 0)
    (hr : RdB w A b) (hm : b.length = m) (hmc : m ≤ c) (hml : m ≤ reach) (hn : n < 1000000000) (hr1 : 0 ≤ room) (hr2 : room ≤ 1099511627776) (hsh : m ≤ sh) (hsh2 : sh < 9223372036854775808) (hx : lookE es s.data.toList = none) (hA : 0 + m ≤ 1048576) (hB : room < usedE es + m) :
    Calls Tryz.prog 21 #[gp gd, .string s, .slice A m c] w fun e w' => e = .returned (.tuple #[.int .i64 0, .int .i64 4]) ∧ After w w' gd gm es (n + 1) (fls es) room (-1) (chFuse true fuse) := by
  obtain ⟨i0, hi, hz0, hz1, hz2⟩ := info_parts info_u8
  have hN := isName_calls s w hs
  rw [hok] at hN
  have HN := Shut.mk hN
  have hch : chErr true fuse = 0 := by simp [chErr, hf]
  have HC := fun w1 (h : Below w.heap.size w w1) => change_calls true (hD.below h) hf1 hf2
  rw [hch] at HC
  generalize chFuse true fuse = fu at HC ⊢
  have HC' := Shut.mk HC
  have HKEY := Shut.mk (name_key s hs)
  have HX := Shut.mk hx
  have HUS := Shut.mk hD.sum
  have hus := hD.sum
  have HR := Shut.mk hr
  have HBM := Shut.mk hm
  unfold reach at hml
  have HRK := Shut.mk (fun w' (h : Kb w w' [gd]) => rdB_disk hD HR.out h)
  clear hN hok hr hm hs hf hf1 hf2 hch HC
  clear hD hx
  go_enter Tryz.func21, Tryz.ntmps21
  go_wp2_with fail
  refine HN.out.mono ?_
  rintro e w1 ⟨rfl, hb1⟩
  have HB := Shut.mk hb1
  go_wp2_with fail
  refine (HC'.out w1 hb1).mono ?_
  rintro e w2 ⟨rfl, hD2, hk2⟩
  have HK2 := Shut.mk ((Kb.of_below HB.out [gd]).trans hk2 (fun x hx => .inl hx))
  clear hk2 hb1 HC' HN
  have q0 : w2.cell? ⟨gd, 0, none⟩ = some (.map (some gm)) := hD2.blk.cell 0
  have q2 : w2.cell? ⟨gd, 2, none⟩ = some (.int .i64 (sh : Int)) := hD2.blk.cell 2
  have f2 := hD2.blk.free 2
  have hD3 := hD2.setd 2 (.int .i64 (-1)) (room' := room) (short' := -1) (fuse' := fu) rfl
  have HK3 := Shut.mk (HK2.out.setCell (p := ⟨gd, 2, none⟩) (by simp) (.int .i64 (-1)))
  have hlk := hD3.map.look name_keyed Tryz.underlying71 (zero_file _) HKEY.out
  unfold ef at hlk
  rw [HX.out] at hlk
  have hlk' : (Instr.lookup 71 (.map (some gm)) (.string s) false).run Tryz.prog (w2.setCell ⟨gd, 2, none⟩ (.int .i64 (-1))) = .ok (.pointer none) (w2.setCell ⟨gd, 2, none⟩ (.int .i64 (-1))) := hlk
  have HD3 := Shut.mk hD3
  have hs1 : ¬ ((sh : Int) = -1) := by omega
  have hs2 : ¬ ((m : Int) > (sh : Int)) := by omega
  clear hlk hD3 hD2
  go_wp2_with fail
  have hse : (w2.setCell ⟨gd, 2, none⟩ (.int .i64 (-1))).heap.size = w2.heap.size := by simp
  generalize w2.setCell ⟨gd, 2, none⟩ (.int .i64 (-1)) = w3 at HD3 HK3 hlk' hse ⊢
  clear q0 q2 f2 hlk'
  have HFT := Shut.mk (fun y hy => HD3.out.lt (x := y) hy)
  have hD4 := HD3.out.below (w' := w3.alloc (.cells #[.slice none 0 0, .int .i64 0] 106)) ((Below.refl _ w3).alloc (Nat.le_refl _) _)
  have hF4 : Blk (w3.alloc (.cells #[.slice none 0 0, .int .i64 0] 106)) w3.heap.size 106 #[.slice none 0 0, .int .i64 0] := Blk.new w3 _ _
  have HK4 := Shut.mk (HK3.out.alloc (.cells #[.slice none 0 0, .int .i64 0] 106))
  have hsz : (w3.alloc (.cells #[.slice none 0 0, .int .i64 0] 106)).heap.size = w3.heap.size + 1 := World.size_alloc _ _
  obtain ⟨XG, hXG⟩ : ∃ XG, XG = w2.heap.size := ⟨_, rfl⟩
  rw [hse, ← hXG] at hF4 HFT hsz
  rw [← hXG]
  have HXG := Shut.mk (hXG.trans hse.symm)
  clear hXG hse
  have HKK := HK3
  clear HK3
  generalize w3.alloc (.cells #[.slice none 0 0, .int .i64 0] 106) = wa at hD4 hF4 HK4 hsz ⊢
  have HF4 := Shut.mk hF4
  have s0 : wa.cell? ⟨XG, 0, none⟩ = some (.slice none 0 0) := hF4.cell 0
  have s1 : wa.cell? ⟨gd, 1, none⟩ = some (.int .i64 room) := hD4.blk.cell 1
  have hxg := World.block_lt_of_cell? _ _ s0
  have hgd := World.block_lt_of_cell? _ _ s1
  have HD3' := HD3
  have HK3' := HKK
  have HD3 := Shut.mk hD4
  have HK3 := HK4
  clear hD4 hF4 HK4
  have hw1 : IntKind.i64.wrap (m : Int) = (m : Int) := by rw [IntKind.wrap_i64]; omega
  have d1 : decide ((1048576 : Int) < (m : Int)) = false := decide_eq_false (by omega)
  have HU0 := Shut.mk (used_calls (w := wa.drew) (HD3.out.below ⟨rfl, rfl, rfl, Nat.le_refl _, fun _ _ => rfl⟩))
  have hw2 : IntKind.i64.wrap ((usedE es : Int) + (m : Int)) = (usedE es : Int) + (m : Int) := by rw [IntKind.wrap_i64]; omega
  have d2 : decide (room < (usedE es : Int) + (m : Int)) = true := decide_eq_true (by omega)
  go_region_held3 (fun w' => w'.cell? ⟨XG, 0, none⟩ = some (.slice none 0 0) ∧ w'.cell? ⟨gd, 1, none⟩ = some (.int .i64 room))
    (first | exact ⟨s0, s1⟩ | exact ⟨t0, t1⟩ | go_keep)
    (first | (go_at_call 66; refine HU0.out.mono ?_; rintro e w4 ⟨rfl, hb4⟩; have t0 := (hb4.cell hxg).trans s0; have t1 := (hb4.cell hgd).trans s1))
  go_wp2_with fail
  go_ret2
  have hb4' := below_of_drew hb4
  exact ⟨rfl, ⟨⟨es, (HD3.out.below hb4').more, rfl, fun y hy => .inl hy⟩, (Kb.mono HK3.out (L' := foot gd gm es) (fun y hy => by simp at hy; subst hy; simp [foot])).below_ hb4'⟩⟩
set_option maxHeartbeats 1000000 in
theorem append_ln3 (sh : Nat) (hD : DiskAt w gd gm n es room (sh : Int) fuse) (s : ByteArray) (A : Option Addr) (m c : Nat) (b : List UInt8) (hs : s.size ≤ reach) (hf1 : -9223372036854775808 ≤ fuse) (hf2 : fuse ≤ 9223372036854775807) (hok : nameOk s.data.toList = true) (hf : fuse ≠ 0)
    (hr : RdB w A b) (hm : b.length = m) (hmc : m ≤ c) (hml : m ≤ reach) (hn : n < 1000000000) (hr1 : 0 ≤ room) (hr2 : room ≤ 1099511627776) (hsh : m ≤ sh) (hsh2 : sh < 9223372036854775808) (hx : lookE es s.data.toList = none) (hA : 0 + m ≤ 1048576) (hB : usedE es + m ≤ room) :
    Calls Tryz.prog 21 #[gp gd, .string s, .slice A m c] w fun e w' => e = .returned (.tuple #[.int .i64 (m : Int), .int .i64 0]) ∧ After w w' gd gm es (n + 1) (addF (fls es) s.data.toList b) room (-1) (chFuse true fuse) := by
  obtain ⟨i0, hi, hz0, hz1, hz2⟩ := info_parts info_u8
  have hN := isName_calls s w hs
  rw [hok] at hN
  have HN := Shut.mk hN
  have hch : chErr true fuse = 0 := by simp [chErr, hf]
  have HC := fun w1 (h : Below w.heap.size w w1) => change_calls true (hD.below h) hf1 hf2
  rw [hch] at HC
  generalize chFuse true fuse = fu at HC ⊢
  have HC' := Shut.mk HC
  have HKEY := Shut.mk (name_key s hs)
  have HX := Shut.mk hx
  have HUS := Shut.mk hD.sum
  have hus := hD.sum
  have HR := Shut.mk hr
  have HBM := Shut.mk hm
  unfold reach at hml
  have HRK := Shut.mk (fun w' (h : Kb w w' [gd]) => rdB_disk hD HR.out h)
  clear hN hok hr hm hs hf hf1 hf2 hch HC
  clear hD hx
  go_enter Tryz.func21, Tryz.ntmps21
  go_wp2_with fail
  refine HN.out.mono ?_
  rintro e w1 ⟨rfl, hb1⟩
  have HB := Shut.mk hb1
  go_wp2_with fail
  refine (HC'.out w1 hb1).mono ?_
  rintro e w2 ⟨rfl, hD2, hk2⟩
  have HK2 := Shut.mk ((Kb.of_below HB.out [gd]).trans hk2 (fun x hx => .inl hx))
  clear hk2 hb1 HC' HN
  have q0 : w2.cell? ⟨gd, 0, none⟩ = some (.map (some gm)) := hD2.blk.cell 0
  have q2 : w2.cell? ⟨gd, 2, none⟩ = some (.int .i64 (sh : Int)) := hD2.blk.cell 2
  have f2 := hD2.blk.free 2
  have hD3 := hD2.setd 2 (.int .i64 (-1)) (room' := room) (short' := -1) (fuse' := fu) rfl
  have HK3 := Shut.mk (HK2.out.setCell (p := ⟨gd, 2, none⟩) (by simp) (.int .i64 (-1)))
  have hlk := hD3.map.look name_keyed Tryz.underlying71 (zero_file _) HKEY.out
  unfold ef at hlk
  rw [HX.out] at hlk
  have hlk' : (Instr.lookup 71 (.map (some gm)) (.string s) false).run Tryz.prog (w2.setCell ⟨gd, 2, none⟩ (.int .i64 (-1))) = .ok (.pointer none) (w2.setCell ⟨gd, 2, none⟩ (.int .i64 (-1))) := hlk
  have HD3 := Shut.mk hD3
  have hs1 : ¬ ((sh : Int) = -1) := by omega
  have hs2 : ¬ ((m : Int) > (sh : Int)) := by omega
  clear hlk hD3 hD2
  go_wp2_with fail
  have hse : (w2.setCell ⟨gd, 2, none⟩ (.int .i64 (-1))).heap.size = w2.heap.size := by simp
  generalize w2.setCell ⟨gd, 2, none⟩ (.int .i64 (-1)) = w3 at HD3 HK3 hlk' hse ⊢
  clear q0 q2 f2 hlk'
  have HFT := Shut.mk (fun y hy => HD3.out.lt (x := y) hy)
  have hD4 := HD3.out.below (w' := w3.alloc (.cells #[.slice none 0 0, .int .i64 0] 106)) ((Below.refl _ w3).alloc (Nat.le_refl _) _)
  have hF4 : Blk (w3.alloc (.cells #[.slice none 0 0, .int .i64 0] 106)) w3.heap.size 106 #[.slice none 0 0, .int .i64 0] := Blk.new w3 _ _
  have HK4 := Shut.mk (HK3.out.alloc (.cells #[.slice none 0 0, .int .i64 0] 106))
  have hsz : (w3.alloc (.cells #[.slice none 0 0, .int .i64 0] 106)).heap.size = w3.heap.size + 1 := World.size_alloc _ _
  obtain ⟨XG, hXG⟩ : ∃ XG, XG = w2.heap.size := ⟨_, rfl⟩
  rw [hse, ← hXG] at hF4 HFT hsz
  rw [← hXG]
  have HXG := Shut.mk (hXG.trans hse.symm)
  clear hXG hse
  have HKK := HK3
  clear HK3
  generalize w3.alloc (.cells #[.slice none 0 0, .int .i64 0] 106) = wa at hD4 hF4 HK4 hsz ⊢
  have HF4 := Shut.mk hF4
  have s0 : wa.cell? ⟨XG, 0, none⟩ = some (.slice none 0 0) := hF4.cell 0
  have s1 : wa.cell? ⟨gd, 1, none⟩ = some (.int .i64 room) := hD4.blk.cell 1
  have hxg := World.block_lt_of_cell? _ _ s0
  have hgd := World.block_lt_of_cell? _ _ s1
  have HD3' := HD3
  have HK3' := HKK
  have HD3 := Shut.mk hD4
  have HK3 := HK4
  clear hD4 hF4 HK4
  have hw1 : IntKind.i64.wrap (m : Int) = (m : Int) := by rw [IntKind.wrap_i64]; omega
  have d1 : decide ((1048576 : Int) < (m : Int)) = false := decide_eq_false (by omega)
  have HU0 := Shut.mk (used_calls (w := wa.drew) (HD3.out.below ⟨rfl, rfl, rfl, Nat.le_refl _, fun _ _ => rfl⟩))
  have hw2 : IntKind.i64.wrap ((usedE es : Int) + (m : Int)) = (usedE es : Int) + (m : Int) := by rw [IntKind.wrap_i64]; omega
  have d2 : decide (room < (usedE es : Int) + (m : Int)) = false := decide_eq_false (by omega)
  go_region_held3 (fun w' => w'.cell? ⟨XG, 0, none⟩ = some (.slice none 0 0) ∧ w'.cell? ⟨gd, 1, none⟩ = some (.int .i64 room))
    (first | exact ⟨s0, s1⟩ | exact ⟨t0, t1⟩ | go_keep)
    (first | (go_at_call 66; refine HU0.out.mono ?_; rintro e w4 ⟨rfl, hb4⟩; have t0 := (hb4.cell hxg).trans s0; have t1 := (hb4.cell hgd).trans s1))
  have hb4' := below_of_drew hb4
  have hD4 := HD3.out.below hb4'
  have HK4 := Shut.mk (HK3.out.below_ hb4')
  have hF4 := HF4.out.below hb4' HF4.out.lt
  have HR4 := Shut.mk (rd_of_rdB (HRK.out _ HK4.out))
  have HL := Shut.mk (show (bys b).length = m * 1 by rw [bys_length, HBM.out, Nat.mul_one])
  have hO := fun (A5 : Option Addr) (c5 : Nat) (w5 : World) (hap : Appended w4 w5 5 1 (.slice none 0 0) (.slice A5 m c5) 0 m [] (bys b)) =>
    new_end hD4 hF4 (B := XG) (Nat.le_refl _) HFT.out (s := s) HX.out (A5 := A5) (N := m) (c5 := c5) (b := b) HBM.out (hap.own.cast (Nat.zero_add _) rfl) hap.grown hap.lies (by omega) (by rw [HBM.out]; omega) HKEY.out hn
  have HO := Shut.mk hO
  clear hO hb4 hb4' hD4 hF4 s0 s1
  go_wp2_with (
    at_builtin
    (refine wpList_append _ rfl _ _ _ rfl 5 i0 _ 1 1 Tryz.underlying27 hi hz0 hz1 hz2 rfl (by decide) _ _ _ rfl (Own.nil w4 _ _) _ m c _ rfl HL.out HR4.out (bys_one _) (by simp only [maxLen]; omega) (by omega) ?_)
    intro v5 w5 hap
    obtain ⟨A5, c5, hv5, _⟩ := hap.own.form
    rw [Nat.zero_add] at hv5
    subst hv5
    obtain ⟨u0, u1, u2, w7, u3, hA7, hK7⟩ := HO.out A5 c5 w5 hap
    have HA7 := Shut.mk hA7
    have HK7 := Shut.mk hK7
    clear hap hA7 hK7)
  go_ret2
  obtain ⟨es', h1, h2, h3⟩ := HA7.out
  have hwx : w.heap.size ≤ XG := by rw [HXG.out]; exact HK3'.out.size
  refine ⟨rfl, ⟨⟨es', h1, h2, fun y hy => (h3 y hy).elim .inl fun h => .inr (Nat.le_trans hwx h)⟩, ?_⟩⟩
  refine (HK4.out.mono (L' := foot gd gm es) (fun y hy => by simp at hy; subst hy; simp [foot])).trans HK7.out fun y hy => ?_
  rcases List.mem_cons.1 hy with rfl | hy
  · exact .inr hwx
  · exact .inl hy
end
end Go.Proofs.YtmlfeljhojmbbaaGreatDoor
