/- Walks: the disk's New, made, change, set, Short, Room, Fuse, Used, Read, Synced. -/
import Derived.Test.YtmlfeljhojmbbaaGreatDoorName
import Derived.Laws.Cover3
namespace Go.Proofs.YtmlfeljhojmbbaaGreatDoor
open Go.RowKit Go.Maps
set_option linter.unusedSimpArgs false
set_option linter.unusedVariables false
set_option maxRecDepth 100000

abbrev gp (g : Nat) : Value := .pointer (some ⟨g, 0, none⟩)
theorem name_keyed : Keyed Tryz.prog 9 := string_keyed Tryz.underlying9
theorem zero_file (w : World) : (zeroValue 98).run Tryz.prog w = .ok (.pointer none) w := by kernel_rfl
theorem name_key (s : ByteArray) (h : s.size ≤ reach) : keyOf Tryz.prog 9 (.string s) = some (.string s.data.toList) :=
  WideMaps.keyOf_string_mk Tryz.underlying9 (by unfold reach at h; unfold maxLen; omega)
/-- a disk without files -/
theorem DiskAt.fresh {w : World} {gd gm : Nat} {room : Int} (hb : Blk w gd 73 #[.map (some gm), .int .i64 room, .int .i64 (-1), .int .i64 (-1)]) (hf : FM w Tryz.prog 9 gm 0 (fun _ => none)) : DiskAt w gd gm 0 [] room (-1) (-1) :=
  ⟨hb, hf, by simp, by simp, .nil, .nil, .nil, by simp, by simp [usedE]⟩
theorem dnew_calls (room : Int) (w : World) (h0 : 0 ≤ room) (h1 : room ≤ 1099511627776) :
    Calls Tryz.prog 8 #[.int .i64 room] w fun e w' => ∃ gd gm, e = .returned (.tuple #[gp gd, .int .i64 0]) ∧ DiskAt w' gd gm 0 [] room (-1) (-1) ∧ Below w.heap.size w w' ∧ ∀ x ∈ foot gd gm [], w.heap.size ≤ x := by
  have hmm := @run_makeMap Tryz.prog
  go_enter Tryz.func8, Tryz.ntmps8
  go_wp2_with fail
  go_ret2
  have h := Blk.new (w.alloc (.map #[] 0)) 73 #[.map (some w.heap.size), .int .i64 room, .int .i64 (-1), .int .i64 (-1)]
  rw [World.size_alloc] at h
  refine ⟨_, w.heap.size, rfl, DiskAt.fresh h ((FM.made w _ _).keep (Below.heap_alloc _ _ _ (by simp))), ((Below.refl _ w).alloc (Nat.le_refl _) _).alloc (by simp) _, ?_⟩
  intro x hx
  simp [foot] at hx
  omega
section
variable {w : World} {gd gm n : Nat} {es : List Ent} {room short fuse : Int}
theorem made_calls (hD : DiskAt w gd gm n es room short fuse) : Calls Tryz.prog 54 #[gp gd] w fun e w' => e = .returned (.bool true) ∧ w = w' := by
  have q0 : w.cell? ⟨gd, 0, none⟩ = some (.map (some gm)) := hD.blk.cell 0
  have hmn : ∀ w : World, (binOp .neq 71 (.map (some gm)) (.map none)).run Tryz.prog w = .ok (.bool true) w := fun w => run_neq_map_nil w 71 9 98 (some gm) Tryz.underlying71
  clear hD
  go_enter Tryz.func54, Tryz.ntmps54
  go_wp2_with fail
  go_ret
  exact ⟨rfl, rfl⟩
def chErr (ok : Bool) (fuse : Int) : Int := if ok then (if fuse = 0 then 62 else 0) else 1
def chFuse (ok : Bool) (fuse : Int) : Int := if ok ∧ 0 < fuse then fuse - 1 else fuse
theorem change_calls (ok : Bool) (hD : DiskAt w gd gm n es room short fuse) (hf : -9223372036854775808 ≤ fuse) (hf2 : fuse ≤ 9223372036854775807) : Calls Tryz.prog 64 #[gp gd, .bool ok] w fun e w' =>
    e = .returned (.int .i64 (chErr ok fuse)) ∧ DiskAt w' gd gm n es room short (chFuse ok fuse) ∧ Kb w w' [gd] := by
  have q3 : w.cell? ⟨gd, 3, none⟩ = some (.int .i64 fuse) := hD.blk.cell 3
  have f3 := hD.blk.free 3
  have hM := Shut.mk (made_calls hD)
  have HD := Shut.mk hD
  clear hD
  unfold chErr chFuse
  cases ok with
  | false =>
    go_enter Tryz.func64, Tryz.ntmps64
    go_wp2_with fail
    refine hM.out.mono ?_
    rintro e w' ⟨rfl, rfl⟩
    go_wp2_with fail
    go_ret
    exact ⟨rfl, by simpa using HD.out, Kb.refl _ _⟩
  | true =>
    rcases Int.lt_trichotomy fuse 0 with h | h | h
    · have h1 : ¬ fuse = 0 := by omega
      have h2 : ¬ fuse > 0 := by omega
      go_enter Tryz.func64, Tryz.ntmps64
      go_wp2_with fail
      refine hM.out.mono ?_
      rintro e w' ⟨rfl, rfl⟩
      go_wp2_with fail
      go_ret
      exact ⟨by simp [h1], by simpa [h2] using HD.out, Kb.refl _ _⟩
    · subst h
      go_enter Tryz.func64, Tryz.ntmps64
      go_wp2_with fail
      refine hM.out.mono ?_
      rintro e w' ⟨rfl, rfl⟩
      go_wp2_with fail
      go_ret
      exact ⟨by simp, by simpa using HD.out, Kb.refl _ _⟩
    · have h1 : ¬ fuse = 0 := by omega
      have h2 : fuse > 0 := by omega
      go_enter Tryz.func64, Tryz.ntmps64
      go_wp2_with fail
      refine hM.out.mono ?_
      rintro e w' ⟨rfl, rfl⟩
      go_wp2_with fail
      go_ret
      exact ⟨by simp [h1], by simpa [h2] using HD.out.setd 3 (.int .i64 (fuse - 1)) (room' := room) (short' := short) (fuse' := fuse - 1) rfl, (Kb.refl w _).setCell (by simp) _⟩
end
end Go.Proofs.YtmlfeljhojmbbaaGreatDoor
