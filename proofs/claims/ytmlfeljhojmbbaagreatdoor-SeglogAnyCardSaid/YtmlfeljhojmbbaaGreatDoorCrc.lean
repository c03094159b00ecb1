/- Walks: digest.Crc and the reference's Crc answer CRC-32C of what the slice holds, and leave the world alone. -/
import Derived.Test.YtmlfeljhojmbbaaGreatDoorPcrc
import Derived.Test.YtmlfeljhojmbbaaGreatDoorMem
namespace Go.Proofs.YtmlfeljhojmbbaaGreatDoor
open Go.RowKit
set_option linter.unusedSimpArgs false
set_option linter.unusedVariables false
set_option maxRecDepth 100000

theorem run_take (c : BitVec 32) (l : List UInt8) (k : Nat) (h : k < l.length) : Pcrc.run c (l.take (k + 1)) = Pcrc.byt (Pcrc.run c (l.take k)) (l.getD k 0) := by
  rw [take_snoc l k h 0, Pcrc.run_snoc]

set_option maxHeartbeats 400000 in
theorem crc_calls (A : Option Addr) (cap : Nat) (l : List UInt8) (w : World) (hr : RdB w A l) (hm : l.length ≤ maxLen) :
    Calls Tryz.prog 86 #[.slice A l.length cap] w fun e w' => e = .returned (.int .u32 ((Pcrc.crc l).toNat : Int)) ∧ w = w' := by
  unfold maxLen at hm
  have HR := Shut.mk hr
  clear hr
  go_enter Tryz.func86, Tryz.ntmps86
  go_wp2
  go_loop [3, 8] (fun c i => ∃ k : Nat, k ≤ l.length ∧ i = .int .i64 k ∧ c = .int .u32 ((Pcrc.run (Pcrc.ones) (l.take k)).toNat : Int)) (fun _ i => l.length - (intOf i).toNat)
  case atStart => exact ⟨0, Nat.zero_le _, rfl, rfl⟩
  case round =>
    obtain ⟨k, hk, rfl, rfl⟩ := hrel
    by_cases hlt : k < l.length
    · obtain ⟨ad, rfl, hc⟩ := HR.out k hlt
      have HT := Shut.mk (run_take (Pcrc.ones) l k hlt)
      generalize l.getD k 0 = x at hc HT
      generalize (Pcrc.run (Pcrc.ones) (l.take k)) = s0 at HT ⊢
      have HE := Shut.mk (Pcrc.enter_byte s0 x)
      go_wp2
      go_loop [3, 16] (fun c i => ∃ j : Nat, j ≤ 8 ∧ i = .int .i64 j ∧ c = .int .u32 ((Pcrc.stps j (s0 ^^^ x.toBitVec.zeroExtend 32)).toNat : Int)) (fun _ i => 8 - (intOf i).toNat)
      case atStart => exact ⟨0, Nat.zero_le _, rfl, by rw [HE.out]; rfl⟩
      case round =>
        obtain ⟨j, hj, rfl, rfl⟩ := hrel
        by_cases hjt : j < 8
        · have HS := Shut.mk (Pcrc.round_prog (Pcrc.stps j (s0 ^^^ x.toBitVec.zeroExtend 32)))
          generalize hg : Pcrc.stps j (s0 ^^^ x.toBitVec.zeroExtend 32) = s at HS ⊢
          have HG := Shut.mk hg
          clear hg
          go_wp2
          go_round
          case rel => exact ⟨j + 1, by omega, by go_num, by rw [Pcrc.stps_succ, HG.out, HS.out]⟩
          case measure => simp [intOf]; omega
        · obtain rfl : j = 8 := by omega
          go_wp2
          go_round
          case rel => exact ⟨k + 1, by omega, by go_num, by rw [HT.out]; rfl⟩
          case measure => simp [intOf]; omega
    · obtain rfl : k = l.length := by omega
      have HF := Shut.mk (Pcrc.fin_prog (Pcrc.run Pcrc.ones l))
      rw [List.take_length]
      go_wp2
      go_ret
      exact ⟨by rw [Pcrc.crc, ← HF.out]; rfl, rfl⟩

set_option maxHeartbeats 400000 in
theorem rcrc_calls (A : Option Addr) (cap : Nat) (l : List UInt8) (w : World) (hr : RdB w A l) (hm : l.length ≤ maxLen) :
    Calls Tryz.prog 111 #[.slice A l.length cap] w fun e w' => e = .returned (.int .u32 ((Pcrc.crc l).toNat : Int)) ∧ w = w' := by
  unfold maxLen at hm
  have HR := Shut.mk hr
  clear hr
  go_enter Tryz.func111, Tryz.ntmps111
  go_wp2
  go_loop [3, 10] (fun c i => ∃ k : Nat, k ≤ l.length ∧ i = .int .i64 k ∧ c = .int .u32 ((Pcrc.run (Pcrc.ones) (l.take k)).toNat : Int)) (fun _ i => l.length - (intOf i).toNat)
  case atStart => exact ⟨0, Nat.zero_le _, rfl, rfl⟩
  case round =>
    obtain ⟨k, hk, rfl, rfl⟩ := hrel
    by_cases hlt : k < l.length
    · obtain ⟨ad, rfl, hc⟩ := HR.out k hlt
      have HT := Shut.mk (run_take (Pcrc.ones) l k hlt)
      generalize l.getD k 0 = x at hc HT
      generalize (Pcrc.run (Pcrc.ones) (l.take k)) = s0 at HT ⊢
      go_wp2
      go_loop [3, 14] (fun c i => ∃ j : Nat, j ≤ 8 ∧ i = .int .i64 j ∧ c = .int .u32 ((Pcrc.rrounds j s0 x).toNat : Int)) (fun _ i => 8 - (intOf i).toNat)
      case atStart => exact ⟨0, Nat.zero_le _, rfl, rfl⟩
      case round =>
        obtain ⟨j, hj, rfl, rfl⟩ := hrel
        by_cases hjt : j < 8
        · generalize hg : Pcrc.rrounds j s0 x = s at ⊢
          have HG := Shut.mk hg
          clear hg
          have HR1 := Shut.mk (Pcrc.rtest s x j)
          by_cases hb : (s.toNat % 2 + x.toNat / 2 ^ j) % 2 = 1
          · have ht := HR1.out
            rw [decide_eq_true hb] at ht
            have HT := Shut.mk (Pcrc.rround_t hb)
            clear HR1 hb
            go_wp2
            go_round
            case rel => exact ⟨j + 1, by omega, by go_num, by rw [Pcrc.rrounds, HG.out, HT.out]⟩
            case measure => simp [intOf]; omega
          · have ht := HR1.out
            rw [decide_eq_false hb] at ht
            have HT := Shut.mk (Pcrc.rround_f hb)
            clear HR1 hb
            go_wp2
            go_round
            case rel => exact ⟨j + 1, by omega, by go_num, by rw [Pcrc.rrounds, HG.out, HT.out]⟩
            case measure => simp [intOf]; omega
        · obtain rfl : j = 8 := by omega
          have HB := Shut.mk (Pcrc.rrounds_byt s0 x)
          go_wp2
          go_round
          case rel => exact ⟨k + 1, by omega, by go_num, by rw [HT.out, HB.out]⟩
          case measure => simp [intOf]; omega
    · obtain rfl : k = l.length := by omega
      have HF := Shut.mk (Pcrc.fin_ref (Pcrc.run Pcrc.ones l))
      rw [List.take_length]
      go_wp2
      go_ret
      exact ⟨by rw [Pcrc.crc, ← HF.out]; rfl, rfl⟩
theorem crc_n (A : Option Addr) (cap n : Nat) (l : List UInt8) (w : World) (hr : RdB w A l) (hm : l.length ≤ maxLen) (hn : l.length = n) :
    Calls Tryz.prog 86 #[.slice A n cap] w fun e w' => e = .returned (.int .u32 ((Pcrc.crc l).toNat : Int)) ∧ w = w' := by
  subst hn
  exact crc_calls A cap l w hr hm
theorem crc_own (v : Value) (l : List UInt8) (w : World) (h : Own w 5 1 v l.length (bys l)) (hm : l.length ≤ maxLen) :
    Calls Tryz.prog 86 #[v] w fun e w' => e = .returned (.int .u32 ((Pcrc.crc l).toNat : Int)) ∧ w = w' := by
  obtain ⟨A, cap, rfl, hr⟩ := h.rdB
  exact crc_calls A cap l w hr hm
theorem rcrc_own (v : Value) (l : List UInt8) (w : World) (h : Own w 5 1 v l.length (bys l)) (hm : l.length ≤ maxLen) :
    Calls Tryz.prog 111 #[v] w fun e w' => e = .returned (.int .u32 ((Pcrc.crc l).toNat : Int)) ∧ w = w' := by
  obtain ⟨A, cap, rfl, hr⟩ := h.rdB
  exact rcrc_calls A cap l w hr hm
theorem own_lit (w : World) (c : UInt8) : Own (w.alloc (.cells #[.int .u8 (c.toNat : Int)] 5)) 5 1 (.slice (some ⟨w.heap.size, 0, none⟩) 1 1) [c].length (bys [c]) :=
  ⟨rfl, .inr ⟨w.heap.size, 1, _, rfl, heap_alloc_new w _, Nat.le_refl _, by simp [maxLen], Nat.le_refl _, rfl⟩⟩
end Go.Proofs.YtmlfeljhojmbbaaGreatDoor
