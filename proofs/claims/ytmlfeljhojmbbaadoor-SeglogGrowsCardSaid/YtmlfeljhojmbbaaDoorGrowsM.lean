/- Walk: the law SeglogGrows answers true. -/
import Derived.Test.YtmlfeljhojmbbaaDoorLgE
namespace Go.Proofs.YtmlfeljhojmbbaaDoor
open Go.RowKit Go.Maps Go.Sort
set_option linter.unusedSimpArgs false
set_option linter.unusedVariables false
set_option maxRecDepth 100000

theorem Lw.len {w0 w : World} {gl gd : Nat} {d : Ds} {cs : List (Nat × List (List UInt8))} {m : Nat} {rm : List (List UInt8)} {j : Nat} {dead : Bool} {N U : Nat} (h : Lw w0 w gl gd d cs m rm j dead N U) : (lsq cs m).length ≤ m := h.lgd.len
theorem Lw.mono {w0 w : World} {gl gd : Nat} {d : Ds} {cs : List (Nat × List (List UInt8))} {m : Nat} {rm : List (List UInt8)} {j : Nat} {dead : Bool} {N U N' U' : Nat} (h : Lw w0 w gl gd d cs m rm j dead N U) (hN : N ≤ N') (hU : U ≤ U') : Lw w0 w gl gd d cs m rm j dead N' U' := ⟨h.go, h.lgd, h.liv.mono hN hU, h.below⟩
set_option maxHeartbeats 4000000 in
theorem seglogGrows_run (a0 a1 : Int) (w : World) (ht : Tb w w.heap.size) :
    Calls Tryd.prog 4 #[.int .i64 a0, .int .i64 a1] w fun e w' => e = .returned (.bool true) ∧ Below w.heap.size w w' := by
  obtain ⟨i0, hi, hz0, hz1, hz2⟩ := info_parts info_u8
  obtain ⟨N0, hU0, hU0b⟩ := u64_nat7 a0
  obtain ⟨N1, hU1, hU1b⟩ := u64_nat7 a1
  obtain ⟨n, hn, hT0⟩ := tmod_nat7 N0 30 (by omega)
  obtain ⟨sz, hsz, hT1⟩ := tmod_nat7 N1 4000 (by omega)
  have hT0' : ((N0 : Int).tmod 30) = (n : Int) := hT0
  have hT1' : ((N1 : Int).tmod 4000) = (sz : Int) := hT1
  have HT := Shut.mk ht
  clear hT0 hT1 ht
  go_enter Tryd.func4, Tryd.ntmps4
  go_wp2_with fail
  refine (new_dd w).mono ?_
  rintro e w1 ⟨gd, F1, rfl, hD1, hb1, hF1⟩
  have HOP := Shut.mk (lw_open hD1 hb1 hF1 HT.out)
  clear hD1 hb1 hF1
  go_wp2_with fail
  refine HOP.out.mono ?_
  rintro e w2 ⟨gl, d, rfl, hlw, hfr, hfu⟩
  have HLW := Shut.mk hlw
  have HFR := Shut.mk (And.intro hfr hfu)
  clear hlw hfr hfu
  go_wp2_with fail
  clear hU0 hU1 hU0b hU1b hT0' hT1'
  go_loopw [10, 11, 44] (fun uc ul i wr => ∃ k C L : Nat, k ≤ n ∧ i = .int .i64 (k : Int) ∧ uc = .int .i64 (C : Int) ∧ ul = .int .i64 (L : Int) ∧ C ≤ k ∧ L ≤ 4041 * k ∧ Shut (∃ d cs m rm j, Lw w wr gl gd d cs m rm j false (2 + 3 * k) (48 + 8000 * k) ∧ look d.S freshN = none ∧ d.fuse = -1 ∧ flat cs rm = recsG k (1 + sz) ∧ m ≤ 1 + k ∧ C = cs.length ∧ L = (frs rm).length))
    (fun _ _ i _ => n - (intOf i).toNat)
  case atStart => exact ⟨0, 0, 0, Nat.zero_le _, rfl, rfl, rfl, Nat.le_refl _, Nat.le_refl _, ⟨d, [], 1, [], 0, HLW.out, HFR.out.1, HFR.out.2, rfl, Nat.le_refl _, rfl, rfl⟩⟩
  case round =>
    obtain ⟨k, C, L, hk, rfl, rfl, rfl, hCk, hLk, HS⟩ := hrel
    by_cases hlt : k < n
    · obtain ⟨d1, cs, m, rm, j, hlw, hfr, hfu, hfl, hm, hC, hL⟩ := HS.out
      have HLW1 := Shut.mk hlw
      have HFR1 := Shut.mk (And.intro hfr hfu)
      have HFL := Shut.mk hfl
      have HM := Shut.mk hm
      have HCL := Shut.mk (And.intro hC hL)
      have hkI : (k : Int) < (n : Int) := by omega
      clear hlw hfr hfu hfl hm hC hL HS
      go_wp2_with (
        refine wpList_make_cap wr rfl (.tmp 47) (.tmp 47) _ rfl 5 i0 (.int .u8 0) Tryd.underlying22 hi hz0 hz1 rfl .i64 .i64 (1 + sz) (1 + sz) (by show Value.int _ _ = Value.int _ _; congr 1) (by show Value.int _ _ = Value.int _ _; congr 1) (by omega) (by rw [hz2]; omega) (by omega) ?_
        obtain ⟨W3, hW3⟩ : ∃ W, W = wr.alloc (.cells (madeCells #[.int .u8 0] (1 + sz)) 5) := ⟨_, rfl⟩
        have ho3 : Own W3 5 1 (.slice (some ⟨wr.heap.size, 0, none⟩) (1 + sz) (1 + sz)) (1 + sz) (bys (List.replicate (1 + sz) 0)) := by
          rw [hW3]
          exact own_made wr _ _ _ (by omega) (by simp [maxLen]; omega)
        have hb3 : Below wr.heap.size wr W3 := by
          rw [hW3]
          exact (Below.refl _ wr).alloc (Nat.le_refl _) _
        have c3 := ho3.cell 0 (u := .int .u8 0) (by rw [bys, List.getElem?_map, List.getElem?_replicate, if_pos (by omega)]; rfl)
        have f3 := ho3.free 0
        rw [← hW3]
        clear hW3)
      have hb4 := hb3.setCell (p := ⟨wr.heap.size, 0, none⟩) (Nat.le_refl _) (.int .u8 (k : Int))
      have hbs : (bys (List.replicate (1 + sz) 0)).set 0 (.int .u8 (k : Int)) = bys (recG k (1 + sz)) := by
        rw [recG, bys_set, UInt8.toNat_ofNat', show k % 2 ^ 8 = k by omega]
      have ho4 := (ho3.set 0 (.int .u8 (k : Int))).cast rfl hbs
      have HLW4 := Shut.mk (HLW1.out.quiet hb4)
      have hrb4 := rdb_own _ ho4
      obtain ⟨H4, hL4, hlt4⟩ := HLW4.out.go
      have HL4 := Shut.mk hL4
      have HAP := Shut.mk (append_calls hL4 hlt4 HLW4.out.lgd HFR1.out.1 HLW4.out.liv (by have := HM.out; omega) (by omega) (by omega) _ (1 + sz) (1 + sz) (recG k (1 + sz)) hrb4 (recG_length _ _) (by omega) (by omega))
      clear hb4 hbs ho4 ho3 hb3 c3 f3 hrb4 hL4 hlt4
      refine HAP.out.mono ?_
      rintro e w5 ⟨E, d2, cs2, m2, rm2, j2, dead2, rfl, hto⟩
      have hlw5 := (HLW4.out.step HL4.out hto.stp hto.lgd hto.liv).mono (N' := 2 + 3 * (k + 1)) (U' := 48 + 8000 * (k + 1)) (by omega) (by omega)
      have hfu5 := hto.f HFR1.out.2
      have hm5 := hto.num
      rcases hto.res with ⟨rfl, rfl, hfr2, hfl2, hcase⟩ | ⟨_, _, h, _⟩
      · have hfl5 : flat cs2 rm2 = recsG (k + 1) (1 + sz) := by rw [hfl2, HFL.out, recsG_succ]
        rw [← HCL.out.2] at hcase
        have hm6 : m2 ≤ 1 + (k + 1) := by have := HM.out; omega
        by_cases hr : 8000 ≤ L
        · rw [if_pos hr] at hcase
          obtain ⟨rfl, rfl, rfl⟩ := hcase
          have HS2 : Shut (∃ d cs m rm j, Lw w w5 gl gd d cs m rm j false (2 + 3 * (k + 1)) (48 + 8000 * (k + 1)) ∧ look d.S freshN = none ∧ d.fuse = -1 ∧ flat cs rm = recsG (k + 1) (1 + sz) ∧ m ≤ 1 + (k + 1) ∧ C + 1 = cs.length ∧ (40 + (1 + sz)) = (frs rm).length) := ⟨d2, _, _, _, _, hlw5, hfr2, hfu5, hfl5, hm6, by rw [List.length_append, ← HCL.out.1]; rfl, by rw [frs_one, frm_length, recG_length]⟩
          clear hlw5 hfu5 hm5 hfr2 hfl2 hfl5 hm6 hto
          go_wp2_with fail
          go_roundw
          case rel => exact ⟨k + 1, C + 1, 40 + (1 + sz), by omega, by go_num, by go_num, by go_num, by omega, by omega, HS2⟩
          case measure => first | (simp [intOf]; done) | (simp [intOf]; omega)
        · rw [if_neg hr] at hcase
          obtain ⟨rfl, rfl, rfl⟩ := hcase
          have HS2 : Shut (∃ d cs m rm j, Lw w w5 gl gd d cs m rm j false (2 + 3 * (k + 1)) (48 + 8000 * (k + 1)) ∧ look d.S freshN = none ∧ d.fuse = -1 ∧ flat cs rm = recsG (k + 1) (1 + sz) ∧ m ≤ 1 + (k + 1) ∧ C = cs.length ∧ L + (40 + (1 + sz)) = (frs rm).length) := ⟨d2, _, _, _, _, hlw5, hfr2, hfu5, hfl5, hm6, HCL.out.1, by rw [frs_append, frs_one, List.length_append, frm_length, recG_length, ← HCL.out.2]⟩
          clear hlw5 hfu5 hm5 hfr2 hfl2 hfl5 hm6 hto
          have hr2 : L < 8000 := by omega
          go_wp2_with fail
          go_roundw
          case rel => exact ⟨k + 1, C, L + (40 + (1 + sz)), by omega, by go_num, by go_num, by go_num, by omega, by omega, HS2⟩
          case measure => first | (simp [intOf]; done) | (simp [intOf]; omega)
      · exact absurd HFR1.out.2 h
    · obtain rfl : k = n := by omega
      obtain ⟨d1, cs, m, rm, j, hlw, hfr, hfu, hfl, hm, hC, hL⟩ := HS.out
      have HAG := Shut.mk (lw_again hlw hfu (by omega) (by omega))
      have hfll : (flat cs rm).length = k := by rw [hfl, recsG, List.length_map, List.length_range]
      have HFL := Shut.mk hfl
      have HFLL := Shut.mk hfll
      have HM := Shut.mk hm
      have HCL := Shut.mk (And.intro hC hL)
      clear hlw hfr hfu hfl hfll hm hC hL HS
      go_wp2_with fail
      refine HAG.out.mono ?_
      rintro e w6 ⟨gl2, v6, d6, rfl, hrec, hlw6, _, hf6, _, _⟩
      obtain ⟨vs, ho6, hrw6, _⟩ := hrec
      rw [HFL.out] at hrw6
      rw [HFLL.out] at ho6
      obtain ⟨A6, c6, rfl, hr6, _⟩ := ho6.form
      have HR6 := Shut.mk hr6
      have HRW6 := Shut.mk hrw6
      obtain ⟨H6, hL6, _⟩ := hlw6.go
      have hlen6 := hlw6.len
      have hle6 := hlw6.lgd.le
      have hm9 : m ≤ 400 := by have := HM.out; omega
      have HSG := Shut.mk (segments_calls hL6 (fun n hn => by have := hle6 n hn; omega) (by omega))
      have HBY := Shut.mk (fun (wx : World) (hb : Below w6.heap.size w6 wx) => bytes_calls (hL6.quiet hb) (fun n hn => by have := hle6 n hn; omega) (by omega))
      have hby : bytesN d6 (lsq cs m) = k * (40 + (1 + sz)) := by
        rw [hlw6.lgd.bytes, frs_const _ (1 + sz) (fun r hr => by
          rw [HFL.out] at hr
          obtain ⟨q, _, rfl⟩ := List.mem_map.1 hr
          exact recG_length _ _), HFLL.out]
      have hlq : (lsq cs m).length = C + 1 := by rw [lsq, List.length_append, List.length_map, ← HCL.out.1]; rfl
      rw [hby] at HBY
      rw [hlq] at HSG
      have HLW6 := Shut.mk hlw6
      clear ho6 hr6 hrw6 hL6 hlen6 hle6 hby hlq hlw6 hf6
      go_wp2_with fail
      go_loopw [74] (fun i wr2 => ∃ q : Nat, q ≤ k ∧ i = .int .i64 (q : Int) ∧ wr2 = w6) (fun i _ => k - (intOf i).toNat)
      case atStart => exact ⟨0, Nat.zero_le _, rfl, by trivial⟩
      case round =>
        obtain ⟨q, hq, rfl, rfl⟩ := hrel
        by_cases hlt2 : q < k
        · have hrl : (recsG k (1 + sz)).length = k := by simp [recsG]
          obtain ⟨Aq, cq, hvq, hcq, hrq, _⟩ := HRW6.out.2 q (by rw [hrl]; exact hlt2)
          have hge : (recsG k (1 + sz))[q]'(by rw [hrl]; exact hlt2) = recG q (1 + sz) := by simp [recsG]
          rw [hge] at hvq hcq hrq
          rw [recG_length] at hvq hcq
          obtain ⟨a6, hA6, hc6⟩ := HR6.out (fun e => by rw [e] at hvq; simp at hvq)
          subst hA6
          have cq0 := hc6 q _ hvq
          obtain ⟨aq, rfl, _⟩ := hrq 0 (by rw [recG_length]; omega)
          have cb0 : wr.cell? aq = some (.int .u8 (((recG q (1 + sz)).getD 0 0).toNat : Int)) := hrq.at_ (k := 0) (by rw [recG_length]; omega)
          have hb0 : (((recG q (1 + sz)).getD 0 0).toNat : Int) = (q : Int) := by
            rw [recG, List.getD_eq_getElem?_getD, List.getElem?_set_self (by simp; omega)]
            simp only [Option.getD_some, UInt8.toNat_ofNat']
            omega
          rw [hb0] at cb0
          have hqI : (q : Int) < (k : Int) := by omega
          have hq256 : (q : Int) < 256 := by omega
          clear hvq hrq hc6 hge hb0 hrl
          go_wp2_with fail
          go_roundw
          case rel => exact ⟨q + 1, by omega, by go_num, by trivial⟩
          case measure => first | (simp [intOf]; done) | (simp [intOf]; omega)
        · obtain rfl : q = k := by omega
          go_wp2_with (first
            | (go_at_call 15; refine HSG.out.mono ?_; rintro e w7 ⟨v7, rfl, ho7, hb7, _⟩; obtain ⟨A7, c7, rfl, _⟩ := ho7.form)
            | (go_at_call 16; refine (HBY.out w7 hb7).mono ?_; rintro e w8 ⟨rfl, hb8⟩))
          go_ret
          have hpr : q * (40 + (1 + sz)) ≤ 30 * 4041 := Nat.mul_le_mul (by omega) (by omega)
          have hw : wrap64 ((q : Int) * (40 + (1 + (sz : Int)))) = (q : Int) * (40 + (1 + (sz : Int))) := by
            have e : (q : Int) * (40 + (1 + (sz : Int))) = ((q * (40 + (1 + sz)) : Nat) : Int) := by push_cast; rfl
            rw [e]
            unfold wrap64
            omega
          refine ⟨?_, HLW6.out.below.trans ((hb7.trans (hb8.mono hb7.size)).mono HLW6.out.below.size)⟩
          rw [hw, beq_self_eq_true]
          rfl
theorem seglogGrows_walk (a0 a1 : Int) (w : World) (h0 : -9223372036854775808 ≤ a0) (h0' : a0 ≤ 9223372036854775807) (h1 : -9223372036854775808 ≤ a1) (h1' : a1 ≤ 9223372036854775807) (ht : Tb w w.heap.size) :
    Calls Tryd.prog 4 #[.int .i64 a0, .int .i64 a1] w fun e w' => e = .returned (.bool true) ∧ Below w.heap.size w w' := seglogGrows_run a0 a1 w ht
end Go.Proofs.YtmlfeljhojmbbaaDoor
