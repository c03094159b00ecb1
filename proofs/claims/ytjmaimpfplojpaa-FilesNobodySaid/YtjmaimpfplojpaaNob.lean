/- The calls on a disk that no call made. -/
import Derived.Test.YtjmaimpfplojpaaName
import Derived.Test.YtjmaimpfplojpaaBlk
namespace Go.Proofs.Ytjmaimpfplojpaa
open Go.RowKit Go.Maps
set_option linter.unusedSimpArgs false
set_option linter.unusedVariables false
set_option maxRecDepth 100000

theorem isName_any (s : ByteArray) (w : World) : Calls Try.prog 33 #[.string s] w fun e w' => e = .returned (.bool (nameOk s.data.toList)) ∧ Below w.heap.size w w' := by
  by_cases hs : s.size ≤ reach
  · exact isName_calls s w hs
  · have hsz : s.data.toList.length = s.size := by rw [Array.length_toList]; rfl
    unfold nameOk
    rw [hsz]
    have h1 : 0 < s.size := by omega
    have h2 : ¬ s.size ≤ 32 := by unfold reach at hs; omega
    have e1 : ((s.size : Int) > 0) := by omega
    have e2 : ¬ ((s.size : Int) ≤ 32) := by omega
    rw [decide_eq_true h1, decide_eq_false h2]
    clear h1 h2 hs hsz
    go_enter Try.func33, Try.ntmps33
    go_wp2_with fail
    go_ret
    exact ⟨by simp, Below.refl _ _⟩
/-- a disk that no call made -/
def Nob (w : World) (p : Value) : Prop := p = .pointer none ∨ ∃ g, p = .pointer (some ⟨g, 0, none⟩) ∧ Blk w g 57 #[.map none, .int .i64 0, .int .i64 0, .int .i64 0]
theorem Nob.below {w w' : World} {p : Value} (h : Nob w p) (hb : Below w.heap.size w w') : Nob w' p := by
  rcases h with h | ⟨g, h, hg⟩
  · exact .inl h
  · exact .inr ⟨g, h, hg.below hb hg.lt⟩
theorem made_nob (p : Value) (w : World) (h : Nob w p) : Calls Try.prog 34 #[p] w fun e w' => e = .returned (.bool false) ∧ w = w' := by
  have hmn : ∀ w : World, (binOp .neq 55 (.map none) (.map none)).run Try.prog w = .ok (.bool false) w := fun w => run_neq_map_nil w 55 9 71 none Try.underlying55
  rcases h with rfl | ⟨g, rfl, hg⟩
  · go_enter Try.func34, Try.ntmps34
    go_wp2_with fail
    go_ret
    exact ⟨rfl, rfl⟩
  · have q0 : w.cell? ⟨g, 0, none⟩ = some (.map none) := hg.cell 0
    go_enter Try.func34, Try.ntmps34
    go_wp2_with fail
    go_ret
    exact ⟨rfl, rfl⟩
theorem nob_form {w : World} {p : Value} (h : Nob w p) : ∃ a, p = .pointer a := by
  rcases h with h | ⟨g, h, _⟩
  · exact ⟨_, h⟩
  · exact ⟨_, h⟩
theorem change_nob (p : Value) (ok : Bool) (w : World) (h : Nob w p) : Calls Try.prog 32 #[p, .bool ok] w fun e w' => e = .returned (.int .i64 2) ∧ w = w' := by
  go_enter Try.func32, Try.ntmps32
  go_wp2_with fail
  refine (made_nob p w h).mono ?_
  rintro e w' ⟨rfl, rfl⟩
  go_wp2_with fail
  go_ret
  exact ⟨rfl, rfl⟩
theorem used_nob (p : Value) (w : World) (h : Nob w p) : Calls Try.prog 12 #[p] w fun e w' => e = .returned (.int .i64 0) ∧ w = w' := by
  go_enter Try.func12, Try.ntmps12
  go_wp2_with fail
  refine (made_nob p w h).mono ?_
  rintro e w' ⟨rfl, rfl⟩
  go_wp2_with fail
  go_ret
  exact ⟨rfl, rfl⟩
theorem list_nob (p : Value) (w : World) (h : Nob w p) : Calls Try.prog 26 #[p] w fun e w' => e = .returned (.slice none 0 0) ∧ w = w' := by
  go_enter Try.func26, Try.ntmps26
  go_wp2_with fail
  refine (made_nob p w h).mono ?_
  rintro e w' ⟨rfl, rfl⟩
  go_wp2_with fail
  go_ret
  exact ⟨rfl, rfl⟩
theorem read_nob (p : Value) (s : ByteArray) (w : World) (h : Nob w p) : Calls Try.prog 15 #[p, .string s] w fun e w' => e = .returned (.tuple #[.slice none 0 0, .int .i64 2]) ∧ w = w' := by
  go_enter Try.func15, Try.ntmps15
  go_wp2_with fail
  refine (made_nob p w h).mono ?_
  rintro e w' ⟨rfl, rfl⟩
  go_wp2_with fail
  go_ret2
  exact ⟨rfl, rfl⟩
theorem synced_nob (p : Value) (s : ByteArray) (w : World) (h : Nob w p) : Calls Try.prog 20 #[p, .string s] w fun e w' => e = .returned (.int .i64 0) ∧ w = w' := by
  go_enter Try.func20, Try.ntmps20
  go_wp2_with fail
  refine (made_nob p w h).mono ?_
  rintro e w' ⟨rfl, rfl⟩
  go_wp2_with fail
  go_ret
  exact ⟨rfl, rfl⟩
theorem short_nob (p : Value) (x : Int) (w : World) (h : Nob w p) : Calls Try.prog 14 #[p, .int .i64 x] w fun e w' => e = .returned (.int .i64 2) ∧ w = w' := by
  go_enter Try.func14, Try.ntmps14
  go_wp2_with fail
  refine (made_nob p w h).mono ?_
  rintro e w' ⟨rfl, rfl⟩
  go_wp2_with fail
  go_ret
  exact ⟨rfl, rfl⟩
theorem room_nob (p : Value) (x : Int) (w : World) (h : Nob w p) : Calls Try.prog 13 #[p, .int .i64 x] w fun e w' => e = .returned (.int .i64 2) ∧ w = w' := by
  go_enter Try.func13, Try.ntmps13
  go_wp2_with fail
  refine (made_nob p w h).mono ?_
  rintro e w' ⟨rfl, rfl⟩
  go_wp2_with fail
  go_ret
  exact ⟨rfl, rfl⟩
theorem fuse_nob (p : Value) (x : Int) (w : World) (h : Nob w p) : Calls Try.prog 21 #[p, .int .i64 x] w fun e w' => e = .returned (.int .i64 2) ∧ w = w' := by
  go_enter Try.func21, Try.ntmps21
  go_wp2_with fail
  refine (made_nob p w h).mono ?_
  rintro e w' ⟨rfl, rfl⟩
  go_wp2_with fail
  go_ret
  exact ⟨rfl, rfl⟩
theorem copy_nob (p : Value) (w : World) (h : Nob w p) : Calls Try.prog 27 #[p] w fun e w' => e = .returned (.pointer none) ∧ w = w' := by
  go_enter Try.func27, Try.ntmps27
  go_wp2_with fail
  refine (made_nob p w h).mono ?_
  rintro e w' ⟨rfl, rfl⟩
  go_wp2_with fail
  go_ret
  exact ⟨rfl, rfl⟩
theorem crash_nob (p : Value) (A : Option Addr) (m c : Nat) (w : World) (h : Nob w p) : Calls Try.prog 19 #[p, .slice A m c] w fun e w' => e = .returned (.int .i64 2) ∧ w = w' := by
  go_enter Try.func19, Try.ntmps19
  go_wp2_with fail
  refine (made_nob p w h).mono ?_
  rintro e w' ⟨rfl, rfl⟩
  go_wp2_with fail
  go_ret
  exact ⟨rfl, rfl⟩
theorem sync_nob (p : Value) (s : ByteArray) (w : World) (h : Nob w p) : Calls Try.prog 18 #[p, .string s] w fun e w' => e = .returned (.int .i64 2) ∧ w = w' := by
  go_enter Try.func18, Try.ntmps18
  go_wp2_with fail
  refine (change_nob p true w h).mono ?_
  rintro e w' ⟨rfl, rfl⟩
  go_wp2_with fail
  go_ret
  exact ⟨rfl, rfl⟩
theorem remove_nob (p : Value) (s : ByteArray) (w : World) (h : Nob w p) : Calls Try.prog 22 #[p, .string s] w fun e w' => e = .returned (.int .i64 2) ∧ w = w' := by
  go_enter Try.func22, Try.ntmps22
  go_wp2_with fail
  refine (change_nob p true w h).mono ?_
  rintro e w' ⟨rfl, rfl⟩
  go_wp2_with fail
  go_ret
  exact ⟨rfl, rfl⟩
theorem append_nob (p : Value) (s : ByteArray) (A : Option Addr) (m c : Nat) (w : World) (h : Nob w p) : Calls Try.prog 11 #[p, .string s, .slice A m c] w fun e w' => e = .returned (.tuple #[.int .i64 0, .int .i64 2]) ∧ Below w.heap.size w w' := by
  go_enter Try.func11, Try.ntmps11
  go_wp2_with fail
  refine (isName_any s w).mono ?_
  rintro e w1 ⟨rfl, hb⟩
  go_wp2_with fail
  refine (change_nob p _ w1 (h.below hb)).mono ?_
  rintro e w' ⟨rfl, rfl⟩
  go_wp2_with fail
  go_ret2
  exact ⟨rfl, hb⟩
theorem rename_nob (p : Value) (s t : ByteArray) (w : World) (h : Nob w p) : Calls Try.prog 23 #[p, .string s, .string t] w fun e w' => e = .returned (.int .i64 2) ∧ Below w.heap.size w w' := by
  go_enter Try.func23, Try.ntmps23
  go_wp2_with fail
  refine (isName_any t w).mono ?_
  rintro e w1 ⟨rfl, hb⟩
  go_wp2_with fail
  refine (change_nob p _ w1 (h.below hb)).mono ?_
  rintro e w' ⟨rfl, rfl⟩
  go_wp2_with fail
  go_ret
  exact ⟨rfl, hb⟩
theorem cut_nob (p : Value) (s : ByteArray) (x : Int) (w : World) (h : Nob w p) : Calls Try.prog 24 #[p, .string s, .int .i64 x] w fun e w' => e = .returned (.int .i64 2) ∧ w = w' := by
  by_cases hx : 0 ≤ x
  · go_enter Try.func24, Try.ntmps24
    go_wp2_with fail
    refine (made_nob p w h).mono ?_
    rintro e w' ⟨rfl, rfl⟩
    go_wp2_with fail
    refine (change_nob p _ w h).mono ?_
    rintro e w' ⟨rfl, rfl⟩
    go_wp2_with fail
    go_ret
    exact ⟨rfl, rfl⟩
  · have hx' : x < 0 := by omega
    go_enter Try.func24, Try.ntmps24
    go_wp2_with fail
    refine (made_nob p w h).mono ?_
    rintro e w' ⟨rfl, rfl⟩
    go_wp2_with fail
    refine (change_nob p _ w h).mono ?_
    rintro e w' ⟨rfl, rfl⟩
    go_wp2_with fail
    go_ret
    exact ⟨rfl, rfl⟩
end Go.Proofs.Ytjmaimpfplojpaa
