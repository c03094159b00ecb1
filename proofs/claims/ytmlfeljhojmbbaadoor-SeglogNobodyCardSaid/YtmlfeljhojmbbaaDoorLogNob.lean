/- Walk: the law SeglogNobody answers true. -/
import Derived.Test.YtmlfeljhojmbbaaDoorBlk
import Derived.Test.YtmlfeljhojmbbaaDoorOpen
import Derived.WalkKit
import Derived.OwnWalk
import Derived.Maps.Own
namespace Go.Proofs.YtmlfeljhojmbbaaDoor
open Go.RowKit Go.Maps
set_option linter.unusedSimpArgs false
set_option linter.unusedVariables false
set_option maxRecDepth 100000

/-- a disk that no call made -/
def Nob (w : World) (p : Value) : Prop := p = .pointer none ∨ ∃ g, p = .pointer (some ⟨g, 0, none⟩) ∧ Blk w g 49 #[.map none, .int .i64 0, .int .i64 0, .int .i64 0]
theorem made_nob (p : Value) (w : World) (h : Nob w p) : Calls Tryd.prog 51 #[p] w fun e w' => e = .returned (.bool false) ∧ w = w' := by
  have hmn : ∀ w : World, (binOp .neq 47 (.map none) (.map none)).run Tryd.prog w = .ok (.bool false) w := fun w => run_neq_map_nil w 47 9 94 none Tryd.underlying47
  rcases h with rfl | ⟨g, rfl, hg⟩
  · go_enter Tryd.func51, Tryd.ntmps51
    go_wp2_with fail
    go_ret
    exact ⟨rfl, rfl⟩
  · have q0 : w.cell? ⟨g, 0, none⟩ = some (.map none) := hg.cell 0
    go_enter Tryd.func51, Tryd.ntmps51
    go_wp2_with fail
    go_ret
    exact ⟨rfl, rfl⟩
theorem read_nob (p : Value) (s : ByteArray) (w : World) (h : Nob w p) : Calls Tryd.prog 32 #[p, .string s] w fun e w' => e = .returned (.tuple #[.slice none 0 0, .int .i64 2]) ∧ w = w' := by
  go_enter Tryd.func32, Tryd.ntmps32
  go_wp2_with fail
  refine (made_nob p w h).mono ?_
  rintro e w' ⟨rfl, rfl⟩
  go_wp2_with fail
  go_ret2
  exact ⟨rfl, rfl⟩
/-- a log that no call made -/
def LNob (w : World) (p : Value) : Prop := p = .pointer none ∨ ∃ g, p = .pointer (some ⟨g, 0, none⟩) ∧ Blk w g 43 #[.pointer none, .slice none 0 0, .bool false]
theorem none_nob (p : Value) (w : World) (h : LNob w p) : Calls Tryd.prog 39 #[p] w fun e w' => e = .returned (.bool true) ∧ w = w' := by
  rcases h with rfl | ⟨g, rfl, hg⟩
  · go_enter Tryd.func39, Tryd.ntmps39
    go_wp2_with fail
    go_ret
    exact ⟨rfl, rfl⟩
  · have q0 : w.cell? ⟨g, 0, none⟩ = some (.pointer none) := hg.cell 0
    go_enter Tryd.func39, Tryd.ntmps39
    go_wp2_with fail
    go_ret
    exact ⟨rfl, rfl⟩
theorem lappend_nob (p : Value) (A : Option Addr) (m c : Nat) (w : World) (h : LNob w p) : Calls Tryd.prog 14 #[p, .slice A m c] w fun e w' => e = .returned (.int .i64 2) ∧ w = w' := by
  go_enter Tryd.func14, Tryd.ntmps14
  go_wp2_with fail
  refine (none_nob p w h).mono ?_
  rintro e w' ⟨rfl, rfl⟩
  go_wp2_with fail
  go_ret
  exact ⟨rfl, rfl⟩
theorem lsync_nob (p : Value) (w : World) (h : LNob w p) : Calls Tryd.prog 17 #[p] w fun e w' => e = .returned (.int .i64 2) ∧ w = w' := by
  go_enter Tryd.func17, Tryd.ntmps17
  go_wp2_with fail
  refine (none_nob p w h).mono ?_
  rintro e w' ⟨rfl, rfl⟩
  go_wp2_with fail
  go_ret
  exact ⟨rfl, rfl⟩
theorem lreplace_nob (p : Value) (A : Option Addr) (m c : Nat) (w : World) (h : LNob w p) : Calls Tryd.prog 18 #[p, .slice A m c] w fun e w' => e = .returned (.int .i64 2) ∧ w = w' := by
  go_enter Tryd.func18, Tryd.ntmps18
  go_wp2_with fail
  refine (none_nob p w h).mono ?_
  rintro e w' ⟨rfl, rfl⟩
  go_wp2_with fail
  go_ret
  exact ⟨rfl, rfl⟩
theorem segments_nob (p : Value) (w : World) (h : LNob w p) : Calls Tryd.prog 15 #[p] w fun e w' => e = .returned (.slice none 0 0) ∧ w = w' := by
  go_enter Tryd.func15, Tryd.ntmps15
  go_wp2_with fail
  refine (none_nob p w h).mono ?_
  rintro e w' ⟨rfl, rfl⟩
  go_wp2_with fail
  go_ret
  exact ⟨rfl, rfl⟩
theorem lbytes_nob (p : Value) (w : World) (h : LNob w p) : Calls Tryd.prog 16 #[p] w fun e w' => e = .returned (.int .i64 0) ∧ w = w' := by
  go_enter Tryd.func16, Tryd.ntmps16
  go_wp2_with fail
  refine (segments_nob p w h).mono ?_
  rintro e w' ⟨rfl, rfl⟩
  go_wp2_with fail
  go_loopw [3, 11] (fun n i wr => n = .int .i64 0 ∧ i = .int .i64 0 ∧ wr = w) (fun _ _ _ => 0)
  case atStart => exact ⟨rfl, rfl, by first | rfl | trivial⟩
  case round =>
    obtain ⟨rfl, rfl, rfl⟩ := hrel
    go_wp2_with fail
    go_ret
    exact ⟨rfl, by first | rfl | trivial⟩
theorem open_nob (p : Value) (w : World) (h : Nob w p) : Calls Tryd.prog 13 #[p] w fun e w' => e = .returned (.tuple #[.pointer none, .slice none 0 0, .int .i64 2]) ∧ w = w' := by
  go_enter Tryd.func13, Tryd.ntmps13
  go_wp2_with fail
  refine (read_nob p _ w h).mono ?_
  rintro e w' ⟨rfl, rfl⟩
  go_wp2_with fail
  go_ret3
  exact ⟨rfl, rfl⟩
theorem Nob.below {w w' : World} {p : Value} (h : Nob w p) (hb : Below w.heap.size w w') : Nob w' p := by
  rcases h with h | ⟨g, h, hg⟩
  · exact .inl h
  · exact .inr ⟨g, h, hg.below hb hg.lt⟩
theorem LNob.below {w w' : World} {p : Value} (h : LNob w p) (hb : Below w.heap.size w w') : LNob w' p := by
  rcases h with h | ⟨g, h, hg⟩
  · exact .inl h
  · exact .inr ⟨g, h, hg.below hb hg.lt⟩
theorem pair_lnob (w : World) (k : Nat) (hk : k < 2) : ∃ p, LNob ((w.alloc (.cells #[.pointer none, .slice none 0 0, .bool false] 43)).alloc (.cells #[.pointer none, .pointer (some ⟨w.heap.size, 0, none⟩)] 31)) p ∧
    ((w.alloc (.cells #[.pointer none, .slice none 0 0, .bool false] 43)).alloc (.cells #[.pointer none, .pointer (some ⟨w.heap.size, 0, none⟩)] 31)).cell? ⟨w.heap.size + 1, k, none⟩ = some p := by
  have hn := (Blk.new w 43 #[.pointer none, .slice none 0 0, .bool false]).alloc (.cells #[.pointer none, .pointer (some ⟨w.heap.size, 0, none⟩)] 31)
  have hl := Blk.new (w.alloc (.cells #[.pointer none, .slice none 0 0, .bool false] 43)) 31 #[.pointer none, .pointer (some ⟨w.heap.size, 0, none⟩)]
  rw [World.size_alloc] at hl
  rcases k with _ | _ | k
  · exact ⟨_, .inl rfl, hl.cell 0⟩
  · exact ⟨_, .inr ⟨_, rfl, hn⟩, hl.cell 1⟩
  · omega
theorem pair_nob (w : World) (k : Nat) (hk : k < 2) : ∃ p, Nob ((w.alloc (.cells #[.map none, .int .i64 0, .int .i64 0, .int .i64 0] 49)).alloc (.cells #[.pointer none, .pointer (some ⟨w.heap.size, 0, none⟩)] 28)) p ∧
    ((w.alloc (.cells #[.map none, .int .i64 0, .int .i64 0, .int .i64 0] 49)).alloc (.cells #[.pointer none, .pointer (some ⟨w.heap.size, 0, none⟩)] 28)).cell? ⟨w.heap.size + 1, k, none⟩ = some p := by
  have hn := (Blk.new w 49 #[.map none, .int .i64 0, .int .i64 0, .int .i64 0]).alloc (.cells #[.pointer none, .pointer (some ⟨w.heap.size, 0, none⟩)] 28)
  have hl := Blk.new (w.alloc (.cells #[.map none, .int .i64 0, .int .i64 0, .int .i64 0] 49)) 28 #[.pointer none, .pointer (some ⟨w.heap.size, 0, none⟩)]
  rw [World.size_alloc] at hl
  rcases k with _ | _ | k
  · exact ⟨_, .inl rfl, hl.cell 0⟩
  · exact ⟨_, .inr ⟨_, rfl, hn⟩, hl.cell 1⟩
  · omega
set_option maxHeartbeats 1000000 in
theorem seglogNobody_walk (A : Option Addr) (l : List UInt8) (c : Nat) (w : World) (_ : RdB w A l) (_ : l.length ≤ c) (_ : c ≤ maxLen) (_ : l.length ≤ reach) :
    Calls Tryd.prog 5 #[.slice A l.length c] w fun e w' => e = .returned (.bool true) ∧ Below w.heap.size w w' := by
  go_enter Tryd.func5, Tryd.ntmps5
  go_wp2_with fail
  have HP := Shut.mk (pair_lnob w)
  have HB := Shut.mk (((Below.refl w.heap.size w).alloc (Nat.le_refl _) (.cells #[.pointer none, .slice none 0 0, .bool false] 43)).alloc (by simp) (.cells #[.pointer none, .pointer (some ⟨w.heap.size, 0, none⟩)] 31))
  generalize (w.alloc (.cells #[.pointer none, .slice none 0 0, .bool false] 43)).alloc (.cells #[.pointer none, .pointer (some ⟨w.heap.size, 0, none⟩)] 31) = W0 at HP HB ⊢
  obtain ⟨BL, hBL⟩ : ∃ BL, BL = w.heap.size + 1 := ⟨_, rfl⟩
  rw [← hBL] at HP ⊢
  clear hBL
  go_loopw [14] (fun i wr => ∃ k : Nat, k ≤ 2 ∧ i = .int .i64 k ∧ wr = W0) (fun i _ => 2 - (intOf i).toNat)
  case atStart => exact ⟨0, Nat.zero_le _, rfl, by first | rfl | trivial⟩
  case round =>
    obtain ⟨k, hk, rfl, rfl⟩ := hrel
    by_cases hlt : k < 2
    · obtain ⟨p, hp, hcell⟩ := HP.out k hlt
      have hkI : (k : Int) < 2 := by omega
      have HN := Shut.mk hp
      have hpf : ∃ a, p = .pointer a := by
        rcases hp with h | ⟨g, h, _⟩
        · exact ⟨_, h⟩
        · exact ⟨_, h⟩
      obtain ⟨a, rfl⟩ := hpf
      clear hp
      go_wp2_with fail
      refine (lappend_nob _ A l.length c wr HN.out).mono ?_
      rintro e w' ⟨rfl, rfl⟩
      go_wp2_with fail
      refine (lsync_nob _ wr HN.out).mono ?_
      rintro e w' ⟨rfl, rfl⟩
      go_wp2_with fail
      refine (lreplace_nob _ none 0 0 wr HN.out).mono ?_
      rintro e w' ⟨rfl, rfl⟩
      go_wp2_with fail
      refine (segments_nob _ wr HN.out).mono ?_
      rintro e w' ⟨rfl, rfl⟩
      go_wp2_with fail
      refine (lbytes_nob _ wr HN.out).mono ?_
      rintro e w' ⟨rfl, rfl⟩
      go_wp2_with fail
      go_roundw
      case rel => exact ⟨k + 1, by omega, by go_num, by first | rfl | trivial⟩
      case measure => simp [intOf]; omega
    · obtain rfl : k = 2 := by omega
      clear HP
      rw [show ((2 : Nat) : Int) = 2 from rfl]
      go_wp2_with fail
      have HP2 := Shut.mk (pair_nob wr)
      have HB2 := Shut.mk ((HB.out.alloc HB.out.size (.cells #[.map none, .int .i64 0, .int .i64 0, .int .i64 0] 49)).alloc (by have := HB.out.size; simp; omega) (.cells #[.pointer none, .pointer (some ⟨wr.heap.size, 0, none⟩)] 28))
      generalize (wr.alloc (.cells #[.map none, .int .i64 0, .int .i64 0, .int .i64 0] 49)).alloc (.cells #[.pointer none, .pointer (some ⟨wr.heap.size, 0, none⟩)] 28) = W1 at HP2 HB2 ⊢
      obtain ⟨BM, hBM⟩ : ∃ BM, BM = wr.heap.size + 1 := ⟨_, rfl⟩
      rw [← hBM] at HP2 ⊢
      clear hBM HB
      go_loopw [46] (fun i wr => ∃ k : Nat, k ≤ 2 ∧ i = .int .i64 k ∧ wr = W1) (fun i _ => 2 - (intOf i).toNat)
      case atStart => exact ⟨0, Nat.zero_le _, rfl, by first | rfl | trivial⟩
      case round =>
        obtain ⟨k, hk, rfl, rfl⟩ := hrel
        by_cases hlt : k < 2
        · obtain ⟨p, hp, hcell⟩ := HP2.out k hlt
          have hkI : (k : Int) < 2 := by omega
          have HN := Shut.mk hp
          have hpf : ∃ a, p = .pointer a := by
            rcases hp with h | ⟨g, h, _⟩
            · exact ⟨_, h⟩
            · exact ⟨_, h⟩
          obtain ⟨a, rfl⟩ := hpf
          clear hp
          go_wp2_with fail
          refine (open_nob _ _ HN.out).mono ?_
          rintro e w' ⟨rfl, rfl⟩
          go_wp2_with fail
          go_roundw
          case rel => exact ⟨k + 1, by omega, by go_num, by first | rfl | trivial⟩
          case measure => simp [intOf]; omega
        · obtain rfl : k = 2 := by omega
          go_wp2_with fail
          go_ret
          exact ⟨rfl, HB2.out⟩
end Go.Proofs.YtmlfeljhojmbbaaDoor
