/- Walk: the law NetNobody answers true. -/
import Derived.Test.YtdnbdmffaoimgaaConns
namespace Go.Proofs.Ytdnbdmffaoimgaa
open Go.RowKit Go.Maps
set_option linter.unusedSimpArgs false
set_option linter.unusedVariables false
set_option maxRecDepth 100000

/-- a net that no call made -/
def Nob (w : World) (p : Value) : Prop := p = .pointer none ∨ ∃ g, p = .pointer (some ⟨g, 0, none⟩) ∧ Blk w g 46 #[.map none, .int .i64 0]
theorem Nob.below {w w' : World} {p : Value} (h : Nob w p) (hb : Below w.heap.size w w') : Nob w' p := by
  rcases h with h | ⟨g, h, hg⟩
  · exact .inl h
  · exact .inr ⟨g, h, hg.below hb hg.lt⟩
theorem of_nob (p : Value) (a : Int) (w : World) (h : Nob w p) : Calls Try.prog 22 #[p, .int .i64 a] w fun e w' => e = .returned (.tuple #[.pointer none, .int .i64 2]) ∧ w = w' := by
  have hmn := fun w : World => run_eql_map_nil (P := Try.prog) w 44 3 55 none Try.underlying44
  rcases h with rfl | ⟨g, rfl, hg⟩
  · go_enter Try.func22, Try.ntmps22
    go_wp2_with fail
    go_ret2
    exact ⟨rfl, rfl⟩
  · have q0 : w.cell? ⟨g, 0, none⟩ = some (.map none) := hg.cell 0
    go_enter Try.func22, Try.ntmps22
    go_wp2_with fail
    go_ret2
    exact ⟨rfl, rfl⟩
theorem dial_nob (p : Value) (a : Int) (w : World) (h : Nob w p) : Calls Try.prog 8 #[p, .int .i64 a] w fun e w' => e = .returned (.tuple #[.int .i64 0, .int .i64 2]) ∧ w = w' := by
  have hmn := fun w : World => run_eql_map_nil (P := Try.prog) w 44 3 55 none Try.underlying44
  rcases h with rfl | ⟨g, rfl, hg⟩
  · go_enter Try.func8, Try.ntmps8
    go_wp2_with fail
    go_ret2
    exact ⟨rfl, rfl⟩
  · have q0 : w.cell? ⟨g, 0, none⟩ = some (.map none) := hg.cell 0
    go_enter Try.func8, Try.ntmps8
    go_wp2_with fail
    go_ret2
    exact ⟨rfl, rfl⟩
theorem take_nob (p : Value) (a : Int) (w : World) (h : Nob w p) : Calls Try.prog 10 #[p, .int .i64 a] w fun e w' => e = .returned (.tuple #[.slice none 0 0, .int .i64 2]) ∧ w = w' := by
  go_enter Try.func10, Try.ntmps10
  go_wp2_with fail
  refine (of_nob p a w h).mono ?_
  rintro e w' ⟨rfl, rfl⟩
  go_wp2_with fail
  go_ret2
  exact ⟨rfl, rfl⟩
theorem addr_nob (p : Value) (a : Int) (w : World) (h : Nob w p) : Calls Try.prog 11 #[p, .int .i64 a] w fun e w' => e = .returned (.tuple #[.int .i64 0, .bool false]) ∧ w = w' := by
  go_enter Try.func11, Try.ntmps11
  go_wp2_with fail
  refine (of_nob p a w h).mono ?_
  rintro e w' ⟨rfl, rfl⟩
  go_wp2_with fail
  go_ret2
  exact ⟨rfl, rfl⟩
theorem write_nob (p : Value) (a : Int) (A : Option Addr) (m c : Nat) (w : World) (h : Nob w p) : Calls Try.prog 9 #[p, .int .i64 a, .slice A m c] w fun e w' => e = .returned (.int .i64 2) ∧ w = w' := by
  go_enter Try.func9, Try.ntmps9
  go_wp2_with fail
  refine (of_nob p a w h).mono ?_
  rintro e w' ⟨rfl, rfl⟩
  go_wp2_with fail
  go_ret
  exact ⟨rfl, rfl⟩
theorem drop_nob (p : Value) (a : Int) (w : World) (h : Nob w p) : Calls Try.prog 13 #[p, .int .i64 a] w fun e w' => e = .returned (.int .i64 2) ∧ w = w' := by
  go_enter Try.func13, Try.ntmps13
  go_wp2_with fail
  refine (of_nob p a w h).mono ?_
  rintro e w' ⟨rfl, rfl⟩
  go_wp2_with fail
  go_ret
  exact ⟨rfl, rfl⟩
theorem conns_nob (p : Value) (w : World) (h : Nob w p) : Calls Try.prog 15 #[p] w fun e w' => e = .returned (.slice none 0 0) ∧ Below w.heap.size w w' := by
  rcases h with rfl | ⟨g, rfl, hg⟩
  · refine (conns_nil w).mono ?_
    rintro e w' ⟨rfl, rfl⟩
    exact ⟨rfl, Below.refl _ _⟩
  · exact conns_empty g w hg
set_option maxHeartbeats 2000000 in
theorem netNobody_run (op n : Int) (A : Option Addr) (m c : Nat) (w : World) :
    Calls Try.prog 5 #[.agg #[.int .i64 op, .int .i64 n, .slice A m c]] w fun e w' => e = .returned (.bool true) ∧ Below w.heap.size w w' := by
  have hb0 : Blk (w.alloc (.cells #[.int .i64 op, .int .i64 n, .slice A m c] 43)) w.heap.size 43 #[.int .i64 op, .int .i64 n, .slice A m c] := Blk.new w _ _
  go_enter Try.func5, Try.ntmps5
  go_wp2_with fail
  have hb1 := hb0.alloc (.cells #[.map none, .int .i64 0] 46)
  have hn1 := Blk.new (w.alloc (.cells #[.int .i64 op, .int .i64 n, .slice A m c] 43)) 46 #[.map none, .int .i64 0]
  rw [World.size_alloc] at hn1
  have hb2 := hb1.alloc (.cells #[.pointer none, .pointer (some ⟨w.heap.size + 1, 0, none⟩)] 24)
  have hn2 := hn1.alloc (.cells #[.pointer none, .pointer (some ⟨w.heap.size + 1, 0, none⟩)] 24)
  have hl2 := Blk.new ((w.alloc (.cells #[.int .i64 op, .int .i64 n, .slice A m c] 43)).alloc (.cells #[.map none, .int .i64 0] 46)) 24 #[.pointer none, .pointer (some ⟨w.heap.size + 1, 0, none⟩)]
  rw [World.size_alloc, World.size_alloc] at hl2
  have hbw : Below w.heap.size w (((w.alloc (.cells #[.int .i64 op, .int .i64 n, .slice A m c] 43)).alloc (.cells #[.map none, .int .i64 0] 46)).alloc (.cells #[.pointer none, .pointer (some ⟨w.heap.size + 1, 0, none⟩)] 24)) := (((Below.refl _ w).alloc (Nat.le_refl _) _).alloc (by simp) _).alloc (by simp; omega) _
  obtain ⟨BL, hBL⟩ : ∃ BL, BL = w.heap.size + 1 + 1 := ⟨_, rfl⟩
  obtain ⟨BN, hBN⟩ : ∃ BN, BN = w.heap.size + 1 := ⟨_, rfl⟩
  rw [← hBN] at hn2 hb2 hbw
  rw [← hBL] at hl2 ⊢
  rw [← hBN] at hl2 ⊢
  generalize ((w.alloc (.cells #[.int .i64 op, .int .i64 n, .slice A m c] 43)).alloc (.cells #[.map none, .int .i64 0] 46)).alloc (.cells #[.pointer none, .pointer (some ⟨BN, 0, none⟩)] 24) = W0 at *
  have HB := Shut.mk hb2
  have HN := Shut.mk hn2
  have HL := Shut.mk hl2
  have HBW := Shut.mk hbw
  clear hb0 hb1 hn1 hb2 hn2 hl2 hBL hBN hbw
  go_loopw [15] (fun i wr => ∃ k : Nat, k ≤ 2 ∧ i = .int .i64 k ∧ Below W0.heap.size W0 wr) (fun i _ => 2 - (intOf i).toNat)
  case atStart => exact ⟨0, Nat.zero_le _, rfl, Below.refl _ _⟩
  case round =>
    obtain ⟨k, hk, rfl, hbr⟩ := hrel
    have hb := HB.out.below hbr HB.out.lt
    have hn := HN.out.below hbr HN.out.lt
    have hl := HL.out.below hbr HL.out.lt
    have HBR := Shut.mk hbr
    clear hbr
    by_cases hlt : k < 2
    · obtain ⟨p, hp, hcell⟩ : ∃ p, Nob wr p ∧ wr.cell? ⟨BL, k, none⟩ = some p := by
        rcases k with _ | _ | k
        · exact ⟨_, .inl rfl, hl.cell 0⟩
        · exact ⟨_, .inr ⟨BN, rfl, hn⟩, hl.cell 1⟩
        · omega
      have d1 : wr.cell? ⟨w.heap.size, 1, none⟩ = some (.int .i64 n) := hb.cell 1
      have hkI : (k : Int) < 2 := by omega
      have HP := Shut.mk hp
      have HBB := Shut.mk hb
      clear hp hb hn hl
      go_wp2_with fail
      refine (dial_nob p n wr HP.out).mono ?_
      rintro e w' ⟨rfl, rfl⟩
      go_wp2_with fail
      refine (take_nob p n wr HP.out).mono ?_
      rintro e w' ⟨rfl, rfl⟩
      go_wp2_with fail
      refine (addr_nob p n wr HP.out).mono ?_
      rintro e w' ⟨rfl, rfl⟩
      go_wp2_with fail
      refine (conns_nob p wr HP.out).mono ?_
      rintro e w2 ⟨rfl, hb2⟩
      have HP2 := Shut.mk (HP.out.below hb2)
      have hbb := HBB.out.below hb2 HBB.out.lt
      have d2 : w2.cell? ⟨w.heap.size, 1, none⟩ = some (.int .i64 n) := hbb.cell 1
      have d3 : w2.cell? ⟨w.heap.size, 2, none⟩ = some (.slice A m c) := hbb.cell 2
      have HB2 := Shut.mk (HBR.out.trans (hb2.mono HBR.out.size))
      clear hbb hb2 d1 hcell
      go_wp2_with fail
      refine (write_nob p n A m c w2 HP2.out).mono ?_
      rintro e w' ⟨rfl, rfl⟩
      go_wp2_with fail
      refine (drop_nob p n w2 HP2.out).mono ?_
      rintro e w' ⟨rfl, rfl⟩
      go_wp2_with fail
      go_roundw
      case rel => exact ⟨k + 1, by omega, by go_num, HB2.out⟩
      case measure => simp [intOf]; omega
    · obtain rfl : k = 2 := by omega
      clear hb hn hl
      go_wp2_with fail
      refine (netCarries_run 5 none [] 0 0 wr (by omega) (by omega) (fun k hk => by simp at hk) (Nat.le_refl _) (by simp [maxLen]) (by simp) (by simp) (by omega) (by omega)).mono ?_
      rintro e w3 ⟨rfl, hb3⟩
      have HB3 := Shut.mk ((HBW.out.trans (HBR.out.mono HBW.out.size)).trans (hb3.mono (Nat.le_trans HBW.out.size HBR.out.size)))
      clear hb3
      go_wp2_with fail
      go_ret
      exact ⟨rfl, HB3.out⟩
end Go.Proofs.Ytdnbdmffaoimgaa
