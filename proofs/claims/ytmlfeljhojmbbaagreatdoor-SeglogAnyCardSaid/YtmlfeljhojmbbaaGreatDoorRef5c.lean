/- Walk: the reference's Sum256. -/
import Derived.Test.YtmlfeljhojmbbaaGreatDoorRef5b
import Derived.Test.YtmlfeljhojmbbaaGreatDoorClone
namespace Go.Proofs.YtmlfeljhojmbbaaGreatDoor
open Go.RowKit
set_option linter.unusedSimpArgs false
set_option linter.unusedVariables false
set_option maxRecDepth 100000

theorem wbytes_spelt (x : BitVec 32) : [((x.toNat : Int) / (16777216 : Int)), ((x.toNat : Int) / (65536 : Int) % (256 : Int)), ((x.toNat : Int) / (256 : Int) % (256 : Int)), ((x.toNat : Int) % (256 : Int))] = (Psha.wbytes x).map fun y => (y.toNat : Int) := by
  rw [← Psha.wbytes_walk]
  have := x.isLt
  rw [show (x.toNat : Int) / (16777216 : Int) % (256 : Int) = (x.toNat : Int) / (16777216 : Int) from by omega]
theorem be8 (n k : Nat) : ((8 : Int) * (n : Int)) / (2 : Int) ^ k % (256 : Int) = ((Psha.be k (8 * n)).toNat : Int) := by
  rw [← Psha.be_walk, show ((8 * n : Nat) : Int) = (8 : Int) * (n : Int) from by simp]
def lenOf : Value → Nat | .slice _ n _ => n | _ => 0
set_option maxRecDepth 100000 in
set_option maxHeartbeats 1000000 in
theorem rsum_calls (A : Option Addr) (cap n : Nat) (b : List UInt8) (w : World) (hr : RdB w A b) (hn : b.length = n) (hm : n ≤ reach) :
    Calls Tryz.prog 112 #[.slice A n cap] w (NewB w (Psha.sha b)) := by
  unfold reach at hm
  obtain ⟨i0, hi, hz0, hz1, hz2⟩ := info_parts info_u8
  obtain ⟨iw, hiw, hw0, hw1, hw2⟩ := info_parts info_u32
  have HN := Shut.mk hn
  clear hn
  have hb0 := (Below.refl w.heap.size w).alloc (Nat.le_refl _) (.cells #[] 5)
  have hrd := rd_of_rdB (hr.keep hb0)
  have ho0 := own_empty w 5 1
  have HL := Shut.mk (bys_length b)
  clear hr
  go_enter Tryz.func112, Tryz.ntmps112
  go_wp2_with (first
    | (at_builtin; refine wpList_append _ rfl (.tmp 11) (.tmp 12) _ rfl 5 i0 _ 1 1 Tryz.underlying27 hi hz0 hz1 hz2 rfl (by decide) _ _ _ rfl ho0 _ n cap _ rfl (by rw [HL.out, HN.out, Nat.mul_one]) hrd (bys_one b) (by simp only [maxLen]; omega) (by omega) ?_; intro v1 w1 hap1)
    | (at_builtin; refine wpList_append _ rfl (.tmp 13) (.tmp 14) _ rfl 5 i0 _ 1 1 Tryz.underlying27 hi hz0 hz1 hz2 rfl (by decide) _ _ _ rfl (hap1.own.alloc (.cells #[.int .u8 128] 5)) _ 1 1 _ rfl rfl (rd_new w1 #[.int .u8 128] 5) (by simp [Value.oneCell']) (by simp only [maxLen]; omega) (by omega) ?_; intro v2 w2 hap2))
  have hb1 : Below w.heap.size w w1 := hb0.grown hap1.grown (by simp) (fun g hg => by cases hg; exact Nat.le_refl _)
  have hn1 : ∀ g, v1.ownBlock = some g → w.heap.size ≤ g := new_append (v := .slice (some ⟨w.heap.size, 0, none⟩) 0 0) (w1 := w.alloc (.cells #[] 5)) (by simp) (fun g hg => by cases hg; exact Nat.le_refl _) hap1.lies
  have hb1' := hb1.alloc hb1.size (.cells #[.int .u8 128] 5)
  have hb2 : Below w.heap.size w w2 := hb1'.grown hap2.grown hb1'.size hn1
  have hn2 : ∀ g, v2.ownBlock = some g → w.heap.size ≤ g := new_append hb1'.size hn1 hap2.lies
  have ho2 : Own w2 5 1 v2 (Psha.padTo b 0).length (bys (Psha.padTo b 0)) := hap2.own.cast (by rw [Psha.padTo_length, HN.out]; omega) (by simp [Psha.padTo, bys])
  have HN2 := Shut.mk hn2
  clear hap1 hap2 hb1 hb1' hn1 hn2 hb0 hrd ho0
  go_loopw [3] (fun v wr => ∃ k : Nat, k ≤ Psha.zs n ∧ Own wr 5 1 v (Psha.padTo b k).length (bys (Psha.padTo b k)) ∧ Below w.heap.size w wr ∧ Shut (∀ g, v.ownBlock = some g → w.heap.size ≤ g)) (fun v wr => Psha.zs n + n + 1 - lenOf v)
  case atStart => exact ⟨0, Nat.zero_le _, ho2, hb2, HN2⟩
  case round =>
    obtain ⟨k, hk, ho, hbr, hnw⟩ := hrel
    have HT := Shut.mk (Psha.pad_test n k hk)
    have hlk : (Psha.padTo b k).length = n + 1 + k := by rw [Psha.padTo_length, HN.out]
    have hz := Psha.zs_le n
    rw [hlk] at ho
    obtain ⟨g3, c3, rfl, _, _⟩ := ho.head (by omega)
    have HLK := Shut.mk hlk
    clear hlk
    by_cases hlt : k < Psha.zs n
    · have ht := HT.out
      rw [decide_eq_true hlt] at ht
      go_wp2_with (at_builtin; refine wpList_append _ rfl (.tmp 20) (.tmp 21) _ rfl 5 i0 _ 1 1 Tryz.underlying27 hi hz0 hz1 hz2 rfl (by decide) _ _ _ rfl (ho.alloc (.cells #[.int .u8 0] 5)) _ 1 1 _ rfl rfl (rd_new wr #[.int .u8 0] 5) (by simp [Value.oneCell']) (by simp only [maxLen]; omega) (by omega) ?_; intro v4 w4 hap4)
      have hbr' := hbr.alloc hbr.size (.cells #[.int .u8 0] 5)
      obtain ⟨g4, c4, rfl, _, _⟩ := hap4.own.head (by omega)
      go_roundw
      case rel => exact ⟨k + 1, by omega, hap4.own.cast (by rw [Psha.padTo_length, HN.out]; omega) (by rw [Psha.padTo_succ, bys_append]; rfl), hbr'.grown hap4.grown hbr'.size hnw.out, ⟨new_append hbr'.size hnw.out hap4.lies⟩⟩
      case measure => simp [lenOf]; omega
    · obtain rfl : k = Psha.zs n := by omega
      have ht := HT.out
      rw [decide_eq_false hlt] at ht
      clear hlt
      have ht2 : ((((n : Int) + 1 + (Psha.zs n : Int)) % 64) != 56) = false := by
        rw [← ht, show ((n + 1 + Psha.zs n : Nat) : Int) = (n : Int) + 1 + (Psha.zs n : Int) from by omega]
      clear ht
      go_wp2_with fail
      clear ht2
      have hpl : ∀ j, j ≤ 8 → (Psha.padTo b (Psha.zs n) ++ (Psha.lens n).take j).length = n + 1 + Psha.zs n + j := by
        intro j hj
        rw [List.length_append, HLK.out, List.length_take]
        simp [Psha.lens]; omega
      have HPL := Shut.mk hpl
      clear hpl
      go_loopw [3, 5] (fun v i wr => ∃ m : Nat, m ≤ 8 ∧ i = .int .i64 ((m : Int) - 1) ∧ Own wr 5 1 v (n + 1 + Psha.zs n + (8 - m)) (bys (Psha.padTo b (Psha.zs n) ++ (Psha.lens n).take (8 - m))) ∧ Below w.heap.size w wr ∧ Shut (∀ g, v.ownBlock = some g → w.heap.size ≤ g)) (fun _ i _ => (intOf i + 1).toNat)
      case atStart => exact ⟨8, Nat.le_refl _, rfl, ho.cast rfl (by simp), hbr, hnw⟩
      case round =>
        clear ho hbr hnw
        rename_i wq
        obtain ⟨m, hm8, rfl, ho, hbr, hnw⟩ := hrel
        obtain ⟨g5, c5, rfl, hc5, hc5m⟩ := ho.head (by omega)
        unfold maxLen at hc5m
        by_cases hm0 : m = 0
        · subst hm0
          go_wp2_with fail
          rw [show (((0 : Nat) : Int) - 1) = (-1 : Int) from rfl]
          obtain ⟨L, hL⟩ : ∃ L, L = n + 1 + Psha.zs n + (8 - 0) := ⟨_, rfl⟩
          rw [← hL] at ho hc5 ⊢
          obtain ⟨F, hF⟩ : ∃ F, F = Psha.full b := ⟨_, rfl⟩
          have ho' : Own wr 5 1 (.slice (some ⟨g5, 0, none⟩) L c5) L (bys F) := ho.cast rfl (by rw [hF, Psha.full_eq, HN.out])
          have hFl : F.length = L := by rw [hF, Psha.full_length, HN.out, hL]; omega
          have hF64 : L = 64 * (L / 64) := by rw [← hFl, hF]; exact Psha.full_blocks b
          have hLm : L ≤ 140737488351312 := by omega
          have HF := Shut.mk hF
          have HFL := Shut.mk hFl
          obtain ⟨M, hM⟩ : ∃ M, M = L / 64 := ⟨_, rfl⟩
          have HM := Shut.mk (show L = 64 * M by rw [hM]; exact hF64)
          clear hF hFl hF64 hL ho hM
          have how := own_words wr Psha.iv.list (by simp [Psha.St.list, maxLen])
          have hbw := hbr.alloc hbr.size (.cells (wds Psha.iv.list).toArray 127)
          have hof := ho'.alloc (.cells (wds Psha.iv.list).toArray 127)
          go_loopw [6, 7] (fun v i wr => ∃ q : Nat, q ≤ M ∧ i = .int .i64 ((64 : Int) * (q : Int)) ∧ Own wr 127 1 v 8 (wds (Psha.blocks Psha.iv F q).list) ∧ Own wr 5 1 (.slice (some ⟨g5, 0, none⟩) L c5) L (bys F) ∧ Below w.heap.size w wr) (fun _ i _ => 64 * M - (intOf i).toNat)
          case atStart => exact ⟨0, Nat.zero_le _, by simp, how.cast rfl rfl, hof, hbw⟩
          case round =>
            clear how hbw hof ho' hbr hnw
            rename_i wp
            obtain ⟨q, hq, rfl, hov, hof, hbr⟩ := hrel
            obtain ⟨gv, cv, rfl, _, _⟩ := hov.head (by omega)
            by_cases hlt : q < M
            · have h64 : 64 * q + 64 ≤ L := by rw [HM.out]; omega
              have hc6 : 64 * q + 64 ≤ c5 := by omega
              have hrb : RdB wr (some ⟨g5, 64 * q, none⟩) ((F.drop (64 * q)).take 64) := by
                intro j hj
                have hj2 : j < 64 := by rw [List.length_take] at hj; omega
                have hj3 : 64 * q + j < F.length := by rw [HFL.out]; omega
                refine ⟨_, rfl, ?_⟩
                have hcell := hof.cell (64 * q + j) (bys_get F (64 * q + j) hj3)
                have e1 : ((F.drop (64 * q)).take 64).getD j 0 = F.getD (64 * q + j) 0 := by
                  simp [List.getD_eq_getElem?_getD, List.getElem?_take, hj2, List.getElem?_drop]
                rw [e1, show (⟨g5, 64 * q, none⟩ : Addr).add j = ⟨g5, 64 * q + j, none⟩ from by unfold Addr.add; split <;> simp_all]
                exact hcell
              have hrl : ((F.drop (64 * q)).take 64).length = 64 := by rw [List.length_take, List.length_drop, HFL.out]; omega
              have HRL := Shut.mk hrl
              clear hrl
              have hhv := hov.form
              have HC := Shut.mk (rblock_calls ⟨g5, 64 * q, none⟩ ⟨gv, 0, none⟩ (c5 - 64 * q) cv ((F.drop (64 * q)).take 64) (Psha.blocks Psha.iv F q) wr hrb HRL.out (by omega) (by unfold maxLen; omega) (by
                obtain ⟨A7, c7, e7, hr7, _⟩ := hhv
                injection e7 with e7
                subst e7
                exact hr7))
              clear hrb hhv
              go_wp2_with fail
              refine HC.out.mono ?_
              rintro e wn ⟨vn, rfl, hon, hbn, hnn⟩
              go_wp2_with fail
              go_roundw
              case rel =>
                exact ⟨q + 1, by omega, by congr 1, hon.cast (Psha.list_length _) rfl, hof.below hbn (fun g hg => hof.block_lt hg), hbr.trans (hbn.mono hbr.size)⟩
              case measure => simp [intOf]; omega
            · obtain rfl : q = M := by omega
              have hge : L ≤ 64 * q := Nat.le_of_eq HM.out
              generalize hst : Psha.blocks Psha.iv F q = st at hov
              have HST := Shut.mk hst
              clear hst hof
              have hsl := Psha.list_length st
              go_wp2_with fail
              go_loopw [8, 54] (fun v i wr => ∃ k : Nat, k ≤ 8 ∧ i = .int .i64 k ∧ Own wr 127 1 (.slice (some ⟨gv, 0, none⟩) 8 cv) 8 (wds st.list) ∧ Own wr 5 1 v (4 * k) (bys ((st.list.take k).flatMap Psha.wbytes)) ∧ Below w.heap.size w wr ∧ Shut (∀ g, v.ownBlock = some g → w.heap.size ≤ g ∧ gv < g)) (fun _ i _ => 8 - (intOf i).toNat)
              case atStart => exact ⟨0, Nat.zero_le _, rfl, hov, Own.nil _ _ _, hbr, ⟨fun g hg => by simp [Value.ownBlock] at hg⟩⟩
              case round =>
                clear hov hbr
                rename_i wz
                obtain ⟨k, hk, rfl, hov, hoo, hbr, hnw⟩ := hrel
                by_cases hlt : k < 8
                · have cv' := hov.cell k (wds_get st.list k (by rw [Psha.list_length]; exact hlt))
                  have HX := Shut.mk (Psha.flat_snoc st.list k (by rw [Psha.list_length]; exact hlt))
                  generalize st.list.getD k 0 = x at cv' HX
                  have HWB := Shut.mk (wbytes_spelt x)
                  go_wp2_with (at_builtin; refine wpList_append _ rfl (.tmp 58) (.tmp 70) _ rfl 5 i0 _ 1 1 Tryz.underlying27 hi hz0 hz1 hz2 rfl (by decide) _ _ _ rfl (hoo.alloc _) _ 4 4 _ rfl (by rfl) (rd_new wr _ 5) (by simp [Value.oneCell']) (by simp only [maxLen]; omega) (by omega) ?_; intro v9 w9 hap9)
                  obtain ⟨g9, c9, rfl, _, _⟩ := hap9.own.head (by omega)
                  have hgl := hov.block_lt (g := gv) rfl
                  go_roundw
                  case rel =>
                    refine ⟨k + 1, by omega, by go_num, (hov.alloc _).grown hap9.grown (fun g hg e => by cases hg; have := (hnw.out gv e).2; omega), hap9.own.cast (by omega) ?_, below_app hbr hbr.size (by rfl) (by rfl) (by rfl) (by rfl) hap9.grown (fun g hg => (hnw.out g hg).1), ⟨fun g hg => ?_⟩⟩
                    · rw [HX.out, bys_append]
                      congr 1
                      have e9 := congrArg (fun l => l.map (Value.int .u8)) HWB.out
                      rw [List.map_map] at e9
                      exact e9
                    · rcases hap9.lies with h | h
                      · exact hnw.out g (h ▸ hg)
                      · rw [h] at hg
                        cases hg
                        have := hbr.size
                        simp
                        omega
                  case measure => simp [intOf]; omega
                · obtain rfl : k = 8 := by omega
                  go_wp2
                  go_ret
                  refine ⟨_, rfl, hoo.cast (Psha.sha_length b).symm ?_, hbr, fun g hg => (hnw.out g hg).1⟩
                  rw [List.take_of_length_le (by rw [Psha.list_length]; omega), ← HST.out, Psha.sha, ← HF.out, HFL.out, show L / 64 = q from by rw [HM.out]; omega]
        · obtain ⟨p, rfl⟩ : ∃ p, m = p + 1 := ⟨m - 1, by omega⟩
          have e1 : ((p + 1 : Nat) : Int) - 1 = (p : Int) := by omega
          rw [e1]
          have HB := Shut.mk (be8 n (8 * p))
          go_wp2_with (at_builtin; refine wpList_append _ rfl (.tmp 30) (.tmp 36) _ rfl 5 i0 _ 1 1 Tryz.underlying27 hi hz0 hz1 hz2 rfl (by decide) _ _ _ rfl (ho.alloc _) _ 1 1 _ rfl (by rfl) (rd_new wr _ 5) (by simp [Value.oneCell']) (by simp only [maxLen]; omega) (by omega) ?_; intro v6 w6 hap6)
          obtain ⟨g6, c6, rfl, _, _⟩ := hap6.own.head (by omega)
          go_roundw
          case rel =>
            have hbr' := hbr.alloc hbr.size (.cells #[.int .u8 ((8 : Int) * (n : Int) / (2 : Int) ^ (8 * p) % (256 : Int))] 5)
            refine ⟨p, by omega, rfl, hap6.own.cast (by omega) ?_, hbr'.grown hap6.grown hbr'.size hnw.out, ⟨new_append hbr'.size hnw.out hap6.lies⟩⟩
            rw [show 8 - p = (8 - (p + 1)) + 1 from by omega, Psha.lens_take n (8 - (p + 1)) (by omega), ← List.append_assoc, bys_append, show 56 - 8 * (8 - (p + 1)) = 8 * p from by omega, HB.out]
            simp only [bys_append, List.append_assoc]
            rfl
          case measure => first | (simp [intOf]; done) | (simp [intOf]; omega)
end Go.Proofs.YtmlfeljhojmbbaaGreatDoor
