/- Walk: the law FilesNobody answers true. -/
import Derived.Test.YtjmaimpfplojpaaNob
import Derived.Test.YtjmaimpfplojpaaStepArg
import Derived.BigQuiet
import Derived.Deep.RegionHeld3
namespace Go.Proofs.Ytjmaimpfplojpaa
open Go.RowKit Go.Maps Go.Joins
set_option linter.unusedSimpArgs false
set_option linter.unusedVariables false
set_option maxRecDepth 100000

set_option maxHeartbeats 2000000 in
theorem filesNobody_run (x y : Int) (s t : ByteArray) (B : Option Addr) (m c : Nat) (D : Option Addr) (tm tc : Nat) (w : World) :
    Calls Try.prog 8 #[.agg #[.int .i64 x, .int .i64 y, .string s, .string t, .slice B m c, .slice D tm tc]] w fun e w' => e = .returned (.bool true) ∧ Below w.heap.size w w' := by
  obtain ⟨CS, hCS⟩ : ∃ CS : Obj, CS = .cells #[.int .i64 x, .int .i64 y, .string s, .string t, .slice B m c, .slice D tm tc] 49 := ⟨_, rfl⟩
  have hb0 : Blk (w.alloc (.cells #[.int .i64 x, .int .i64 y, .string s, .string t, .slice B m c, .slice D tm tc] 49)) w.heap.size 49 #[.int .i64 x, .int .i64 y, .string s, .string t, .slice B m c, .slice D tm tc] := Blk.new w _ _
  go_enter Try.func8, Try.ntmps8
  go_wp2_with fail
  have hb1 := hb0.alloc (.cells #[.map none, .int .i64 0, .int .i64 0, .int .i64 0] 57)
  have hn1 := Blk.new (w.alloc (.cells #[.int .i64 x, .int .i64 y, .string s, .string t, .slice B m c, .slice D tm tc] 49)) 57 #[.map none, .int .i64 0, .int .i64 0, .int .i64 0]
  rw [World.size_alloc] at hn1
  have hb2 := hb1.alloc (.cells #[.pointer none, .pointer (some ⟨w.heap.size + 1, 0, none⟩)] 24)
  have hn2 := hn1.alloc (.cells #[.pointer none, .pointer (some ⟨w.heap.size + 1, 0, none⟩)] 24)
  have hl2 := Blk.new ((w.alloc (.cells #[.int .i64 x, .int .i64 y, .string s, .string t, .slice B m c, .slice D tm tc] 49)).alloc (.cells #[.map none, .int .i64 0, .int .i64 0, .int .i64 0] 57)) 24 #[.pointer none, .pointer (some ⟨w.heap.size + 1, 0, none⟩)]
  rw [World.size_alloc, World.size_alloc] at hl2
  have hbw : Below w.heap.size w (((w.alloc (.cells #[.int .i64 x, .int .i64 y, .string s, .string t, .slice B m c, .slice D tm tc] 49)).alloc (.cells #[.map none, .int .i64 0, .int .i64 0, .int .i64 0] 57)).alloc (.cells #[.pointer none, .pointer (some ⟨w.heap.size + 1, 0, none⟩)] 24)) := (((Below.refl _ w).alloc (Nat.le_refl _) _).alloc (by simp) _).alloc (by simp; omega) _
  obtain ⟨BL, hBL⟩ : ∃ BL, BL = w.heap.size + 1 + 1 := ⟨_, rfl⟩
  obtain ⟨BN, hBN⟩ : ∃ BN, BN = w.heap.size + 1 := ⟨_, rfl⟩
  rw [← hBN] at hn2 hb2 hbw
  rw [← hBL] at hl2 ⊢
  rw [← hBN] at hl2 ⊢
  generalize ((w.alloc (.cells #[.int .i64 x, .int .i64 y, .string s, .string t, .slice B m c, .slice D tm tc] 49)).alloc (.cells #[.map none, .int .i64 0, .int .i64 0, .int .i64 0] 57)).alloc (.cells #[.pointer none, .pointer (some ⟨BN, 0, none⟩)] 24) = W0 at *
  have HB := Shut.mk hb2
  have HN := Shut.mk hn2
  have HL := Shut.mk hl2
  have HBW := Shut.mk hbw
  clear hb0 hb1 hn1 hb2 hn2 hl2 hBL hBN hbw hCS CS
  go_loopw [15] (fun i wr => ∃ k : Nat, k ≤ 2 ∧ i = .int .i64 k ∧ Below W0.heap.size W0 wr) (fun i _ => 2 - (intOf i).toNat)
  case atStart => exact ⟨0, Nat.zero_le _, rfl, Below.refl _ _⟩
  case round =>
    obtain ⟨k, hk, rfl, hbr⟩ := hrel
    have hb := HB.out.below hbr HB.out.lt
    have hn := HN.out.below hbr HN.out.lt
    have hl := HL.out.below hbr HL.out.lt
    have HBR := Shut.mk hbr
    clear hbr
    by_cases hlt : k < 2
    · obtain ⟨p, hp, hcell⟩ : ∃ p, Nob wr p ∧ wr.cell? ⟨BL, k, none⟩ = some p := by
        rcases k with _ | _ | k
        · exact ⟨_, .inl rfl, hl.cell 0⟩
        · exact ⟨_, .inr ⟨BN, rfl, hn⟩, hl.cell 1⟩
        · omega
      obtain ⟨pa, rfl⟩ := nob_form hp
      have d2 : wr.cell? ⟨w.heap.size, 2, none⟩ = some (.string s) := hb.cell 2
      have d4 : wr.cell? ⟨w.heap.size, 4, none⟩ = some (.slice B m c) := hb.cell 4
      have hkI : (k : Int) < 2 := by omega
      have HP := Shut.mk hp
      have HBB := Shut.mk hb
      clear hp hb hn hl
      go_wp2_with fail
      refine (append_nob _ s B m c wr HP.out).mono ?_
      rintro e w1 ⟨rfl, hb1⟩
      have HP1 := Shut.mk (HP.out.below hb1)
      have hbb := HBB.out.below hb1 HBB.out.lt
      have HBB1 := Shut.mk hbb
      have HBR1 := Shut.mk (HBR.out.trans (hb1.mono HBR.out.size))
      clear hb1 d2 d4 hcell HP HBB HBR
      have e1 : w1.cell? ⟨w.heap.size, 1, none⟩ = some (.int .i64 y) := hbb.cell 1
      have e2 : w1.cell? ⟨w.heap.size, 2, none⟩ = some (.string s) := hbb.cell 2
      have e3 : w1.cell? ⟨w.heap.size, 3, none⟩ = some (.string t) := hbb.cell 3
      have e5 : w1.cell? ⟨w.heap.size, 5, none⟩ = some (.slice D tm tc) := hbb.cell 5
      clear hbb
      go_wp2_with fail
      refine (read_nob _ s w1 HP1.out).mono ?_
      rintro e w' ⟨rfl, rfl⟩
      go_wp2_with fail
      have HPD := Shut.mk (show Nob w1.drew (.pointer pa) from HP1.out.below ⟨rfl, rfl, rfl, Nat.le_refl _, fun _ _ => rfl⟩)
      have HBD := Shut.mk (show Blk w1.drew w.heap.size 49 #[.int .i64 x, .int .i64 y, .string s, .string t, .slice B m c, .slice D tm tc] from HBB1.out)
      go_region_held3 (fun w' => w'.cell? ⟨w.heap.size, 1, none⟩ = some (.int .i64 y) ∧ w'.cell? ⟨w.heap.size, 2, none⟩ = some (.string s) ∧ w'.cell? ⟨w.heap.size, 3, none⟩ = some (.string t) ∧ w'.cell? ⟨w.heap.size, 5, none⟩ = some (.slice D tm tc))
        (first | exact ⟨e1, e2, e3, e5⟩ | exact ⟨g1, g2, g3, g5⟩ | go_keep)
        (first
          | (go_at_call 18
             refine (sync_nob _ s _ HPD.out).mono ?_
             rintro e w' ⟨rfl, rfl⟩)
          | (go_at_call 24
             refine (cut_nob _ s y _ HPD.out).mono ?_
             rintro e w' ⟨rfl, rfl⟩)
          | (go_at_call 23
             refine (rename_nob _ s t _ HPD.out).mono ?_
             rintro e w2 ⟨rfl, hb2⟩
             have HP2 := Shut.mk (HPD.out.below hb2)
             have HBB2 := Shut.mk (HBD.out.below hb2 HBD.out.lt)
             have HBR2 := Shut.mk (HBR1.out.trans ((below_of_drew hb2).mono HBR1.out.size))
             have g1 : w2.cell? ⟨w.heap.size, 1, none⟩ = some (.int .i64 y) := HBB2.out.cell 1
             have g2 : w2.cell? ⟨w.heap.size, 2, none⟩ = some (.string s) := HBB2.out.cell 2
             have g3 : w2.cell? ⟨w.heap.size, 3, none⟩ = some (.string t) := HBB2.out.cell 3
             have g5 : w2.cell? ⟨w.heap.size, 5, none⟩ = some (.slice D tm tc) := HBB2.out.cell 5
             clear hb2)
          | (go_at_call 22
             refine (remove_nob _ s _ HP2.out).mono ?_
             rintro e w' ⟨rfl, rfl⟩)
          | (go_at_call 14
             refine (short_nob _ y _ HP2.out).mono ?_
             rintro e w' ⟨rfl, rfl⟩)
          | (go_at_call 13
             refine (room_nob _ y _ HP2.out).mono ?_
             rintro e w' ⟨rfl, rfl⟩)
          | (go_at_call 21
             refine (fuse_nob _ y _ HP2.out).mono ?_
             rintro e w' ⟨rfl, rfl⟩)
          | (go_at_call 19
             refine (crash_nob _ D tm tc _ HP2.out).mono ?_
             rintro e w' ⟨rfl, rfl⟩))
      rename_i hHeld
      clear hHeld
      have hE := Blk.new w2 25 #[.int .i64 2, .int .i64 2, .int .i64 2, .int .i64 2, .int .i64 2, .int .i64 2, .int .i64 2, .int .i64 2, .int .i64 2, .int .i64 2]
      have hba : Below w2.heap.size w2 (w2.alloc (.cells #[.int .i64 2, .int .i64 2, .int .i64 2, .int .i64 2, .int .i64 2, .int .i64 2, .int .i64 2, .int .i64 2, .int .i64 2, .int .i64 2] 25)) := (Below.refl _ w2).alloc (Nat.le_refl _) _
      have HP3 := Shut.mk (HP2.out.below hba)
      have HBB3 := Shut.mk (HBB2.out.below hba HBB2.out.lt)
      have HBR3 := Shut.mk (HBR2.out.trans (hba.mono HBR2.out.size))
      have HE := Shut.mk hE
      generalize w2.alloc (.cells #[.int .i64 2, .int .i64 2, .int .i64 2, .int .i64 2, .int .i64 2, .int .i64 2, .int .i64 2, .int .i64 2, .int .i64 2, .int .i64 2] 25) = w3 at HP3 HBB3 HBR3 HE ⊢
      generalize w2.heap.size = BE at HE ⊢
      clear g1 g2 g3 g5 e1 e2 e3 e5 hE hba HP2 HBB2 HBR2 HPD HBD HP1 HBB1 HBR1
      go_wp2_with fail
      go_loopw [75] (fun i wr => ∃ j : Nat, j ≤ 10 ∧ i = .int .i64 j ∧ wr = w3) (fun i _ => 10 - (intOf i).toNat)
      case atStart => exact ⟨0, Nat.zero_le _, by first | rfl | trivial, by first | rfl | trivial⟩
      case round =>
        obtain ⟨j, hj, rfl, rfl⟩ := hrel
        by_cases hj10 : j < 10
        · have hjI : (j : Int) < 10 := by omega
          have hcell : wr.cell? ⟨BE, j, none⟩ = some (.int .i64 2) := by
            rw [HE.out.cell j]
            rcases j with _ | _ | _ | _ | _ | _ | _ | _ | _ | _ | j
            all_goals first | rfl | omega
          go_wp2_with fail
          go_roundw
          case rel => exact ⟨j + 1, by omega, by go_num, by first | rfl | trivial⟩
          case measure => simp [intOf]; omega
        · obtain rfl : j = 10 := by omega
          have e2 : wr.cell? ⟨w.heap.size, 2, none⟩ = some (.string s) := HBB3.out.cell 2
          have HPD := Shut.mk (show Nob wr.drew (.pointer pa) from HP3.out.below ⟨rfl, rfl, rfl, Nat.le_refl _, fun _ _ => rfl⟩)
          go_wp2_with fail
          go_region_held3 (fun w' => w'.cell? ⟨w.heap.size, 2, none⟩ = some (.string s))
            (first | exact e2 | go_keep)
            (first
              | (go_at_call 26
                 refine (list_nob _ _ HPD.out).mono ?_
                 rintro e w' ⟨rfl, rfl⟩)
              | (go_at_call 20
                 refine (synced_nob _ s _ HPD.out).mono ?_
                 rintro e w' ⟨rfl, rfl⟩)
              | (go_at_call 12
                 refine (used_nob _ _ HPD.out).mono ?_
                 rintro e w' ⟨rfl, rfl⟩)
              | (go_at_call 27
                 refine (copy_nob _ _ HPD.out).mono ?_
                 rintro e w' ⟨rfl, rfl⟩))
          go_wp2_with fail
          go_roundw
          case rel => exact ⟨k + 1, by omega, by go_num, HBR3.out.trans ⟨rfl, rfl, rfl, Nat.le_refl _, fun _ _ => rfl⟩⟩
          case measure => simp [intOf]; omega
    · obtain rfl : k = 2 := by omega
      clear hb hn hl
      go_wp2_with fail
      refine (filesFuse_run 1 none 0 0 wr (fun k hk => by omega) (Nat.le_refl _) (by simp [maxLen])).mono ?_
      rintro e w3 ⟨rfl, hb3⟩
      have HB3 := Shut.mk ((HBW.out.trans (HBR.out.mono HBW.out.size)).trans (hb3.mono (Nat.le_trans HBW.out.size HBR.out.size)))
      clear hb3
      go_wp2_with fail
      go_ret
      exact ⟨rfl, HB3.out⟩
end Go.Proofs.Ytjmaimpfplojpaa
