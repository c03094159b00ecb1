/- Walks: the disk's Used, Read, Synced, set, Short, Room, Fuse. -/
import Derived.Test.YtmlfeljhojmbbaaGreatDoorFile
namespace Go.Proofs.YtmlfeljhojmbbaaGreatDoor
open Go.RowKit Go.Maps
set_option linter.unusedSimpArgs false
set_option linter.unusedVariables false
set_option maxRecDepth 100000

section
variable {w : World} {gd gm n : Nat} {es : List Ent} {room short fuse : Int}
theorem used_calls (hD : DiskAt w gd gm n es room short fuse) : Calls Tryz.prog 66 #[gp gd] w fun e w' => e = .returned (.int .i64 (usedE es : Int)) ∧ Below w.heap.size w w' := by
  have q0 : w.cell? ⟨gd, 0, none⟩ = some (.map (some gm)) := hD.blk.cell 0
  have hM := Shut.mk (made_calls hD)
  have HF := Shut.mk hD.file
  have HO := Shut.mk hD.own
  have HP := Shut.mk hD.keys
  have HS := Shut.mk hD.sum
  obtain ⟨D, hown, hf⟩ := hD.map
  have HW := Shut.mk hf
  have HST := Shut.mk (done_start es (Maps.has D) fun e he => has_of hf (g := e.g) (by unfold ef; rw [lookE_of_mem hD.keys he]; rfl))
  clear hD hf
  go_enter Tryz.func66, Tryz.ntmps66
  go_wp2_with fail
  refine hM.out.mono ?_
  rintro e w' ⟨rfl, rfl⟩
  clear hM
  go_wp2_with (first
    | (at_range; refine wpList_range_own _ rfl _ 71 rfl 9 98 name_keyed Tryz.underlying71 _ gm n D rfl hown ?_; intro w0 hrg0 hg0 hs0)
    | go_in)
  go_frame
  have hb0 : Below w.heap.size w w0 := (Below.refl _ w).grown hg0 (Nat.le_refl _) (fun k hk => by cases hk)
  clear hown q0
  go_loopw [3, 5] (fun x y wr => ∃ left cnt, wr.ranges Tryz.prog 9 ptrElem gm w.heap.size n D left cnt ∧ x = .int .i64 (doneE es left : Int) ∧ Below w.heap.size w wr) (fun _ _ wr => wr.rangeLeft gm w.heap.size)
  case atStart => exact ⟨_, _, hrg0, by rw [HST.out]; rfl, hb0⟩
  case round =>
    obtain ⟨left, cnt, hrg, rfl, hbr⟩ := hrel
    go_wp2_with (first
      | (at_next; refine wpList_next_ranges _ rfl _ rfl 9 name_keyed ptrElem Value.string ptr (fun key kl h => by obtain ⟨s, h1, _⟩ := WideMaps.string_of_keyOf Tryz.underlying9 h; exact ⟨s, h1⟩) (fun v y h => by obtain ⟨o, h1, _⟩ := ptr_elem_inv h; exact ⟨o, h1⟩) gm w.heap.size n _ _ _ rfl hrg ?_ ?_)
      | go_in)
    · intro _ hl0
      rw [done_end es left hl0]
      go_wp2
      go_ret
      exact ⟨rfl, hbr⟩
    · intro s o kl y ps w1 cnt1 hkey hlx hRy hat hrg1 hlt hg1 hs1 hen
      obtain ⟨s', hs', rfl, _⟩ := WideMaps.string_of_keyOf Tryz.underlying9 hkey
      cases hs'
      obtain ⟨o', ho', hy⟩ := ptr_elem_inv hRy
      obtain ⟨rfl, rfl⟩ := Prod.mk.inj hy
      have ho : o' = o := by cases o <;> cases o' <;> simp_all [ptr]
      subst ho
      obtain ⟨g, hg, rfl⟩ := comes HW.out hat
      unfold ef at hg
      cases hl : lookE es s.data.toList with
      | none => rw [hl] at hg; cases hg
      | some e =>
        rw [hl] at hg
        injection hg with hg
        subst hg
        obtain ⟨hme, hke⟩ := lookE_mem hl
        have hbw1 : Below w.heap.size w w1 := hbr.grown hg1 hbr.size (fun k hk => by cases hk; exact Nat.le_refl _)
        have hb := (HF.out e hme).below hbw1 (HF.out e hme).lt
        obtain ⟨Ae, ce, hve, _⟩ := (HO.out e hme).form
        rw [hve] at hb
        have r0 : w1.cell? ⟨e.g, 0, none⟩ = some (.slice Ae e.b.length ce) := hb.cell 0
        have hen' : (Instr.entry (.pointer (some ⟨w.heap.size, 0, none⟩))).run Tryz.prog w1 = .ok (.tuple #[.string s, gp e.g]) w1 := hen
        have hst := done_step HP.out hl hlx
        have hle := done_le es (fun z => left z && !z.sameKey (.string s.data.toList))
        have hsm := HS.out
        have HLE := Shut.mk hrg.left_eq
        have hlt' := hlt
        generalize doneE es left = nd at hst ⊢
        generalize e.b.length = nb at hst r0
        clear hen hrg hat hRy hb hve hl hme
        go_wp2_with fail
        go_roundw
        case rel => exact ⟨_, cnt1, hrg1, by rw [hst]; go_num, hbw1⟩
        case measure => rw [hrg1.left_eq, HLE.out]; omega
theorem read_calls (hD : DiskAt w gd gm n es room short fuse) (s : ByteArray) (hs : s.size ≤ reach) {x : Ent} (hx : lookE es s.data.toList = some x) : Calls Tryz.prog 40 #[gp gd, .string s] w fun e w' =>
    ∃ v, e = .returned (.tuple #[v, .int .i64 0]) ∧ Own w' 5 1 v x.b.length (bys x.b) ∧ Below w.heap.size w w' ∧ ∀ g, v.ownBlock = some g → w.heap.size ≤ g := by
  have q0 : w.cell? ⟨gd, 0, none⟩ = some (.map (some gm)) := hD.blk.cell 0
  have hM := Shut.mk (made_calls hD)
  have hlk := hD.map.look name_keyed Tryz.underlying71 (zero_file w) (name_key s hs)
  unfold ef at hlk
  rw [hx] at hlk
  have hlk' : (Instr.lookup 71 (.map (some gm)) (.string s) false).run Tryz.prog w = .ok (gp x.g) w := hlk
  obtain ⟨hm, _⟩ := lookE_mem hx
  have hb := hD.file x hm
  obtain ⟨A, c, hv, hr, _⟩ := (hD.own x hm).form
  rw [hv] at hb
  have r0 : w.cell? ⟨x.g, 0, none⟩ = some (.slice A x.b.length c) := hb.cell 0
  have hlen := (hD.len x hm).2
  have HC := Shut.mk (clone_calls A c x.b w (rdB_of_rd hr) (by unfold reach; omega))
  clear hD hlk hb hr hm hv hlen hs
  go_enter Tryz.func40, Tryz.ntmps40
  go_wp2_with fail
  refine hM.out.mono ?_
  rintro e w' ⟨rfl, rfl⟩
  go_wp2_with fail
  refine HC.out.mono ?_
  rintro e w' ⟨v, rfl, ho, hb, hn⟩
  go_wp2_with fail
  go_ret2
  exact ⟨v, rfl, ho, hb, hn⟩
theorem read_none (hD : DiskAt w gd gm n es room short fuse) (s : ByteArray) (hs : s.size ≤ reach) (hx : lookE es s.data.toList = none) : Calls Tryz.prog 40 #[gp gd, .string s] w fun e w' =>
    e = .returned (.tuple #[.slice none 0 0, .int .i64 60]) ∧ w = w' := by
  have q0 : w.cell? ⟨gd, 0, none⟩ = some (.map (some gm)) := hD.blk.cell 0
  have hM := Shut.mk (made_calls hD)
  have hlk := hD.map.look name_keyed Tryz.underlying71 (zero_file w) (name_key s hs)
  unfold ef at hlk
  rw [hx] at hlk
  have hlk' : (Instr.lookup 71 (.map (some gm)) (.string s) false).run Tryz.prog w = .ok (.pointer none) w := hlk
  clear hD hlk hs
  go_enter Tryz.func40, Tryz.ntmps40
  go_wp2_with fail
  refine hM.out.mono ?_
  rintro e w' ⟨rfl, rfl⟩
  go_wp2_with fail
  go_ret2
  exact ⟨rfl, rfl⟩
theorem synced_calls (hD : DiskAt w gd gm n es room short fuse) (s : ByteArray) (hs : s.size ≤ reach) {x : Ent} (hx : lookE es s.data.toList = some x) : Calls Tryz.prog 80 #[gp gd, .string s] w fun e w' =>
    e = .returned (.int .i64 (x.syn : Int)) ∧ w = w' := by
  have q0 : w.cell? ⟨gd, 0, none⟩ = some (.map (some gm)) := hD.blk.cell 0
  have hM := Shut.mk (made_calls hD)
  have hlk := hD.map.look name_keyed Tryz.underlying71 (zero_file w) (name_key s hs)
  unfold ef at hlk
  rw [hx] at hlk
  have hlk' : (Instr.lookup 71 (.map (some gm)) (.string s) false).run Tryz.prog w = .ok (gp x.g) w := hlk
  have r1 : w.cell? ⟨x.g, 1, none⟩ = some (.int .i64 (x.syn : Int)) := (hD.file x (lookE_mem hx).1).cell 1
  clear hD hlk hs
  go_enter Tryz.func80, Tryz.ntmps80
  go_wp2_with fail
  refine hM.out.mono ?_
  rintro e w' ⟨rfl, rfl⟩
  go_wp2_with fail
  go_ret
  exact ⟨rfl, rfl⟩
theorem set_calls (gd i : Nat) (x most : Int) (u : Value) (hc : w.cell? ⟨gd, i, none⟩ = some u) (hfr : w.frozen? ⟨gd, i, none⟩ = false) : Calls Tryz.prog 55 #[gp gd, .pointer (some ⟨gd, i, none⟩), .int .i64 x, .int .i64 most] w fun e w' =>
    e = .returned (.int .i64 (if x < 0 ∨ most < x then 1 else 0)) ∧ w' = (if x < 0 ∨ most < x then w else w.setCell ⟨gd, i, none⟩ (.int .i64 x)) := by
  by_cases h1 : x < 0
  · go_enter Tryz.func55, Tryz.ntmps55
    go_wp2_with fail
    go_ret
    simp [h1]
  · by_cases h2 : most < x
    · go_enter Tryz.func55, Tryz.ntmps55
      go_wp2_with fail
      go_ret
      simp [h2]
    · go_enter Tryz.func55, Tryz.ntmps55
      go_wp2_with fail
      go_ret
      simp [h1, h2]
theorem short_calls (hD : DiskAt w gd gm n es room short fuse) (x : Int) : Calls Tryz.prog 32 #[gp gd, .int .i64 x] w fun e w' =>
    e = .returned (.int .i64 (if x < 0 then 1 else 0)) ∧ DiskAt w' gd gm n es room (if x < 0 then short else x) fuse ∧ Kb w w' [gd] := by
  have hM := Shut.mk (made_calls hD)
  have HS := Shut.mk (set_calls (w := w) gd 2 x x (.int .i64 short) (hD.blk.cell 2) (hD.blk.free 2))
  have HD := Shut.mk hD
  clear hD
  go_enter Tryz.func32, Tryz.ntmps32
  go_wp2_with fail
  refine hM.out.mono ?_
  rintro e w' ⟨rfl, rfl⟩
  go_wp2_with fail
  refine HS.out.mono ?_
  rintro e w' ⟨rfl, rfl⟩
  go_wp2_with fail
  · go_ret
    exact ⟨rfl, HD.out, Kb.refl _ _⟩
  · go_ret
    exact ⟨rfl, HD.out.setd 2 _ rfl, (Kb.refl w _).setCell (by simp) _⟩
theorem fuse_calls (hD : DiskAt w gd gm n es room short fuse) (x : Int) : Calls Tryz.prog 12 #[gp gd, .int .i64 x] w fun e w' =>
    e = .returned (.int .i64 (if x < 0 then 1 else 0)) ∧ DiskAt w' gd gm n es room short (if x < 0 then fuse else x) ∧ Kb w w' [gd] := by
  have hM := Shut.mk (made_calls hD)
  have HS := Shut.mk (set_calls (w := w) gd 3 x x (.int .i64 fuse) (hD.blk.cell 3) (hD.blk.free 3))
  have HD := Shut.mk hD
  clear hD
  go_enter Tryz.func12, Tryz.ntmps12
  go_wp2_with fail
  refine hM.out.mono ?_
  rintro e w' ⟨rfl, rfl⟩
  go_wp2_with fail
  refine HS.out.mono ?_
  rintro e w' ⟨rfl, rfl⟩
  go_wp2_with fail
  · go_ret
    exact ⟨rfl, HD.out, Kb.refl _ _⟩
  · go_ret
    exact ⟨rfl, HD.out.setd 3 _ rfl, (Kb.refl w _).setCell (by simp) _⟩
theorem room_calls (hD : DiskAt w gd gm n es room short fuse) (x : Int) : Calls Tryz.prog 34 #[gp gd, .int .i64 x] w fun e w' =>
    e = .returned (.int .i64 (if x < 0 ∨ 1099511627776 < x then 1 else 0)) ∧ DiskAt w' gd gm n es (if x < 0 ∨ 1099511627776 < x then room else x) short fuse ∧ Kb w w' [gd] := by
  have hM := Shut.mk (made_calls hD)
  have HS := Shut.mk (set_calls (w := w) gd 1 x 1099511627776 (.int .i64 room) (hD.blk.cell 1) (hD.blk.free 1))
  have HD := Shut.mk hD
  clear hD
  go_enter Tryz.func34, Tryz.ntmps34
  go_wp2_with fail
  refine hM.out.mono ?_
  rintro e w' ⟨rfl, rfl⟩
  go_wp2_with fail
  refine HS.out.mono ?_
  rintro e w' ⟨rfl, rfl⟩
  go_wp2_with fail
  · go_ret
    exact ⟨rfl, HD.out, Kb.refl _ _⟩
  · go_ret
    exact ⟨rfl, HD.out.setd 1 _ rfl, (Kb.refl w _).setCell (by simp) _⟩
end
end Go.Proofs.YtmlfeljhojmbbaaGreatDoor
