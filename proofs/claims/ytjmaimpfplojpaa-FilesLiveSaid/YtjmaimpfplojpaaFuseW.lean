/- Walk: the law FilesFuse answers true. -/
import Derived.Test.YtjmaimpfplojpaaFuse
namespace Go.Proofs.Ytjmaimpfplojpaa
open Go.RowKit Go.Maps
set_option linter.unusedSimpArgs false
set_option linter.unusedVariables false
set_option maxRecDepth 100000

theorem rdB_one (w : World) (x : UInt8) : RdB (w.alloc (.cells #[.int .u8 (x.toNat : Int)] 5)) (some ⟨w.heap.size, 0, none⟩) [x] := by
  have hb := Blk.new w 5 #[.int .u8 (x.toNat : Int)]
  intro i hi
  have : i = 0 := by simp at hi; omega
  subst this
  exact ⟨_, rfl, hb.cell 0⟩
theorem nw_read_sa {w0 w : World} {gd n k : Nat} {room short fuse : Int} (h : Nw w0 w gd n (SA k) room short fuse) : Calls Try.prog 15 #[gp gd, .string ⟨#[97]⟩] w fun e w' =>
    ∃ A c z, e = .returned (.tuple #[.slice A k c, .int .i64 z]) ∧ Own w' 5 1 (.slice A k c) (List.replicate k (1 : UInt8)).length (bys (List.replicate k 1)) ∧ Below w.heap.size w w' ∧ ∀ g, (Value.slice A k c).ownBlock = some g → w.heap.size ≤ g := by
  have hl := sa_look k
  by_cases hk : k = 0
  · subst hk
    refine (nw_read_none h ⟨#[97]⟩ (by simp [ByteArray.size, reach]) hl).mono ?_
    rintro e w' ⟨rfl, rfl⟩
    exact ⟨none, 0, 60, rfl, Own.nil w _ _, Below.refl _ _, fun g hg => by cases hg⟩
  · rw [if_neg hk] at hl
    refine (nw_read h ⟨#[97]⟩ (by simp [ByteArray.size, reach]) hl).mono ?_
    rintro e w' ⟨v, rfl, ho, _, hb, hv⟩
    obtain ⟨A, c, rfl, _⟩ := ho.form
    rw [List.length_replicate] at hv ⊢
    refine ⟨A, c, 0, rfl, ?_, hb, hv⟩
    rw [List.length_replicate] at ho
    exact ho
set_option maxHeartbeats 2000000 in
theorem filesFuse_run (a0 : Int) (A : Option Addr) (nl cl : Nat) (w : World) (hl : RdP w A nl) (hcl : nl ≤ cl) (hcm : cl ≤ maxLen) :
    Calls Try.prog 6 #[.int .i64 a0, .slice A nl cl] w fun e w' => e = .returned (.bool true) ∧ Below w.heap.size w w' := by
  have HL := Shut.mk hl
  clear hl
  unfold maxLen at hcm
  obtain ⟨N0, hN0, hB0⟩ := u64_nat a0
  obtain ⟨N, hN, hT0⟩ := tmod_nat N0 12 (by omega)
  have hT0' : ((N0 : Int).tmod 12) = (N : Int) := hT0
  have hwi : IntKind.i64.wrap (N : Int) = (N : Int) := by rw [IntKind.wrap_i64]; omega
  clear hT0
  go_enter Try.func6, Try.ntmps6
  go_wp2_with fail
  refine (dk_new 1048576 w (by omega) (by omega)).mono ?_
  rintro e w1 ⟨gd, rfl, hN1⟩
  have HF1 := Shut.mk (nw_fuse hN1 (N : Int) (by omega))
  clear hN1
  go_wp2_with fail
  refine HF1.out.mono ?_
  rintro e w2 ⟨rfl, hN2⟩
  have HN2 := Shut.mk hN2
  clear hN2 HF1 hwi hT0' hB0 hN0
  go_wp2_with fail
  go_loopw [32] (fun i wr => ∃ k, k ≤ N ∧ i = .int .i64 (k : Nat) ∧ Nw w wr gd k (SA k) 1048576 (-1) ((N - k : Nat) : Int)) (fun i _ => N - (intOf i).toNat)
  case atStart => exact ⟨0, Nat.zero_le _, rfl, HN2.out⟩
  case round =>
    obtain ⟨k, hk, rfl, hN3⟩ := hrel
    by_cases hlt : k < N
    · have hc := nw_append (nw_alloc hN3 (.cells #[.int .u8 ((1 : UInt8).toNat : Int)] 5)) ⟨#[97]⟩ (some ⟨wr.heap.size, 0, none⟩) 1 1 [1] (by simp [ByteArray.size, reach]) (by omega) (by omega) (by decide) (by omega) (rdB_one wr 1) rfl (by omega) (by unfold reach; omega) (by omega) (by omega) (by omega) (by omega) (by omega)
        (by show lenF (SA k) [97] + 1 ≤ _; rw [sa_len]; omega) (by rw [sa_used]; show (k : Int) + ((1 : Nat) : Int) ≤ _; omega)
      have e1 : addF (SA k) (⟨#[97]⟩ : ByteArray).data.toList (List.take (appLen (-1) 1) [1]) = SA (k + 1) := sa_add k
      have e2 : chFuse true ((N - k : Nat) : Int) = ((N - (k + 1) : Nat) : Int) := by simp [chFuse]; omega
      have e3 : appLen (-1) 1 = 1 := rfl
      rw [e1, e2, e3, if_neg (Nat.lt_irrefl 1)] at hc
      have HC := Shut.mk hc
      clear hc e1 e2 e3
      clear hN3
      have hltI : (k : Int) < (N : Int) := by omega
      go_wp2_with fail
      refine HC.out.mono ?_
      rintro e w3 ⟨rfl, hN4⟩
      have HN4 := Shut.mk hN4
      clear hN4
      go_wp2_with fail
      go_roundw
      case rel => exact ⟨k + 1, by omega, by go_num, HN4.out⟩
      case measure => simp [intOf]; omega
    · obtain rfl : k = N := by omega
      have hlt2 : ¬ (k : Int) < (k : Int) := by omega
      have HR := Shut.mk (nw_read_sa hN3)
      have HN3 := Shut.mk hN3
      clear hN3 HN2
      go_wp2_with fail
      refine HR.out.mono ?_
      rintro e w3 ⟨A3, c3, z3, rfl, ho3, hb3, hv3⟩
      have hB := Bes.of HN3.out hb3 ho3 hv3
      rw [Nat.sub_self] at hB
      have HB := Shut.mk hB
      clear hB ho3 hb3 hv3 HR
      go_wp2_with fail
      go_loopw [50] (fun i wr => ∃ j, j ≤ nl ∧ i = .int .i64 (j : Nat) ∧ Bes w wr gd k (SA k) 1048576 (-1) 0 (.slice A3 k c3) (List.replicate k 1)) (fun i _ => nl - (intOf i).toNat)
      case atStart => exact ⟨0, Nat.zero_le _, rfl, HB.out⟩
      case round =>
        obtain ⟨j, hj, rfl, hB4⟩ := hrel
        have HB4 := Shut.mk hB4
        clear hB4
        by_cases hjl : j < nl
        · obtain ⟨ad, x, y, s, t, B, m, c, D, tm, tc, rfl, q0, q1, q2, q3, q4, q5⟩ := HL.out j hjl
          have r0 := (HB4.out.below.cell (World.block_lt_of_cell? w _ q0)).trans q0
          have r1 := (HB4.out.below.cell (World.block_lt_of_cell? w _ q1)).trans q1
          have r2 := (HB4.out.below.cell (World.block_lt_of_cell? w _ q2)).trans q2
          have r3 := (HB4.out.below.cell (World.block_lt_of_cell? w _ q3)).trans q3
          have r4 := (HB4.out.below.cell (World.block_lt_of_cell? w _ q4)).trans q4
          have r5 := (HB4.out.below.cell (World.block_lt_of_cell? w _ q5)).trans q5
          clear q0 q1 q2 q3 q4 q5
          have hjI : (j : Int) < (nl : Int) := by omega
          go_wp2_with fail
          have hs1 : (⟨#[97]⟩ : ByteArray).size ≤ reach := by simp [ByteArray.size, reach]
          have hs2 : (⟨#[98]⟩ : ByteArray).size ≤ reach := by simp [ByteArray.size, reach]
          have HA5 := Shut.mk (bes_append_stop (HB4.out.quiet ((Below.refl _ wr).alloc (Nat.le_refl _) (.cells #[.int .i64 x, .int .i64 y, .string s, .string t, .slice B m c, .slice D tm tc] 49))) ⟨#[97]⟩ B m c hs1 (by decide))
          clear r0 r1 r2 r3 r4 r5
          refine HA5.out.mono ?_
          rintro e w5 ⟨rfl, hB5⟩
          have HB5 := Shut.mk hB5
          have HY := Shut.mk (bes_sync_stop hB5 ⟨#[97]⟩)
          clear hB5 HA5
          go_wp2_with fail
          refine HY.out.mono ?_
          rintro e w6 ⟨rfl, hB6⟩
          have HY2 := Shut.mk (bes_remove_stop hB6 ⟨#[97]⟩)
          clear hB6 HY HB5
          go_wp2_with fail
          refine HY2.out.mono ?_
          rintro e w7 ⟨rfl, hB7⟩
          have HY3 := Shut.mk (bes_rename_stop hB7 ⟨#[97]⟩ ⟨#[98]⟩ hs2 (by decide))
          clear hB7 HY2
          go_wp2_with fail
          refine HY3.out.mono ?_
          rintro e w8 ⟨rfl, hB8⟩
          have HY4 := Shut.mk (bes_cut_stop hB8 ⟨#[97]⟩ hs1)
          clear hB8 HY3
          go_wp2_with fail
          refine HY4.out.mono ?_
          rintro e w9 ⟨rfl, hB9⟩
          have HB9 := Shut.mk hB9
          clear hB9 HY4
          go_wp2_with fail
          go_roundw
          case rel => exact ⟨j + 1, by omega, by go_num, HB9.out⟩
          case measure => simp [intOf]; omega
        · have hjI : ¬ (j : Int) < (nl : Int) := by omega
          have HR5 := Shut.mk (nw_read_sa HB4.out.nw)
          go_wp2_with fail
          refine HR5.out.mono ?_
          rintro e w5 ⟨A5, c5, z5, rfl, ho5, hb5, hv5⟩
          have hB5 := HB4.out.quiet hb5
          have HE := Shut.mk (equal_calls A3 A5 k c3 k c5 (List.replicate k 1) (List.replicate k 1) w5 (own_rdB k (by simpa using hB5.own)) (own_rdB k (by simpa using ho5)) (List.length_replicate ..) (List.length_replicate ..))
          rw [beq_self_eq_true] at HE
          have hC := nw_crash_nil hB5.nw
          rw [sa_crash] at hC
          have HC := Shut.mk hC
          clear hC hB5 hb5 ho5 hv5 HR5
          go_wp2_with fail
          refine HE.out.mono ?_
          rintro e w' ⟨rfl, rfl⟩
          go_wp2_with fail
          refine HC.out.mono ?_
          rintro e w6 ⟨rfl, hN6⟩
          have hl0 : lenF (if k = 0 then [] else [([97], [], 0)]) [97] = 0 := by by_cases h : k = 0 <;> simp [h, lenF, look]
          have hu0 : used (if k = 0 then [] else [([97], [], 0)]) = 0 := by by_cases h : k = 0 <;> simp [h, used]
          have hA := nw_append (nw_alloc hN6 (.cells #[.int .u8 ((2 : UInt8).toNat : Int)] 5)) ⟨#[97]⟩ (some ⟨w6.heap.size, 0, none⟩) 1 1 [2] (by simp [ByteArray.size, reach]) (by omega) (by omega) (by decide) (by omega) (rdB_one w6 2) rfl (by omega) (by unfold reach; omega) (by omega) (by omega) (by omega) (by omega) (by omega)
            (by show lenF (if k = 0 then [] else [([97], [], 0)]) [97] + 1 ≤ _; rw [hl0]; omega) (by rw [hu0]; show ((0 : Nat) : Int) + ((1 : Nat) : Int) ≤ _; omega)
          have e1 : addF (if k = 0 then [] else [([97], [], 0)]) (⟨#[97]⟩ : ByteArray).data.toList (List.take (appLen (-1) 1) [2]) = [([97], [2], 0)] := sa_end k
          have e3 : appLen (-1) 1 = 1 := rfl
          rw [e1, e3, if_neg (Nat.lt_irrefl 1)] at hA
          have HA := Shut.mk hA
          clear hA e1 e3 hl0 hu0 hN6 HC HE
          go_wp2_with fail
          refine HA.out.mono ?_
          rintro e w7 ⟨rfl, hN7⟩
          have HU := Shut.mk (nw_used hN7)
          clear hN7 HA
          go_wp2_with fail
          refine HU.out.mono ?_
          rintro e w8 ⟨rfl, hN8, _⟩
          have hu1 : used [(([97] : List UInt8), ([2] : List UInt8), 0)] = 1 := rfl
          rw [hu1]
          go_wp2_with fail
          go_ret
          exact ⟨rfl, hN8.below⟩
end Go.Proofs.Ytjmaimpfplojpaa
