/- Walk: the law FilesStay answers true. -/
import Derived.Test.YtjmaimpfplojpaaNew2
import Derived.Test.YtjmaimpfplojpaaShort
import Derived.Deep.AppendLies
namespace Go.Proofs.Ytjmaimpfplojpaa
open Go.RowKit Go.Maps
set_option linter.unusedSimpArgs false
set_option linter.unusedVariables false
set_option maxRecDepth 100000

theorem rdT_one (w : World) (nm : ByteArray) (k : Int) (b : Bool) (h : nm.size ≤ maxLen) : RdT (w.alloc (.cells #[.string nm, .int .i64 k, .bool b] 43)) (some ⟨w.heap.size, 0, none⟩) [⟨nm, k, b, h⟩] := by
  have hb := Blk.new w 43 #[.string nm, .int .i64 k, .bool b]
  intro i hi
  have : i = 0 := by simp at hi; omega
  subst this
  exact ⟨_, rfl, hb.cell 0, hb.cell 1, hb.cell 2⟩
set_option maxHeartbeats 4000000 in
theorem filesStay_walk (A : Option Addr) (la : List UInt8) (ca : Nat) (B : Option Addr) (lb : List UInt8) (cb : Nat) (keep : Int) (turn : Bool) (w : World)
    (hA : RdB w A la) (hca : la.length ≤ ca) (hcam : ca ≤ maxLen) (_ : la.length ≤ reach) (hB : RdB w B lb) (hcb : lb.length ≤ cb) (hcbm : cb ≤ maxLen) (_ : lb.length ≤ reach) (_ : -9223372036854775808 ≤ keep) (_ : keep ≤ 9223372036854775807) :
    Calls Try.prog 5 #[.slice A la.length ca, .slice B lb.length cb, .int .i64 keep, .bool turn] w fun e w' => e = .returned (.bool true) ∧ Below w.heap.size w w' := by
  unfold maxLen at hcam hcbm
  obtain ⟨i0, hi, hz0, hz1, hz2⟩ := info_parts info_u8
  have HA := Shut.mk (hA.take (min la.length 1000))
  have HB := Shut.mk (hB.take (min lb.length 1000))
  have HLA := Shut.mk (show (la.take (min la.length 1000)).length = min la.length 1000 by rw [List.length_take]; omega)
  have HLB := Shut.mk (show (lb.take (min lb.length 1000)).length = min lb.length 1000 by rw [List.length_take]; omega)
  go_enter Try.func5, Try.ntmps5
  go_wp2_with fail
  refine (dk_new 1048576 w (by omega) (by omega)).mono ?_
  rintro e w1 ⟨gd, rfl, hN1⟩
  have HN1 := Shut.mk hN1
  clear hN1 hA hB
  go_wp2_with fail
  go_region
  have hma : (if (1000 : Int) < (la.length : Int) then (1000 : Int) else (la.length : Int)) = ((min la.length 1000 : Nat) : Int) := by split <;> omega
  have hmb : (if (1000 : Int) < (lb.length : Int) then (1000 : Int) else (lb.length : Int)) = ((min lb.length 1000 : Nat) : Int) := by split <;> omega
  rw [hma, hmb]
  have hna : min la.length 1000 ≤ ca := by omega
  have hnb : min lb.length 1000 ≤ cb := by omega
  have hna2 : min la.length 1000 ≤ 1000 := by omega
  have hnb2 : min lb.length 1000 ≤ 1000 := by omega
  clear hma hmb
  generalize min la.length 1000 = na at HA HLA hna hna2 ⊢
  generalize min lb.length 1000 = nb at HB HLB hnb hnb2 ⊢
  generalize la.take na = xa at HA HLA
  generalize lb.take nb = xb at HB HLB
  clear hca hcb
  simp only [Int.toNat_natCast]
  have hS1 : addF [] (⟨#[120]⟩ : ByteArray).data.toList (xa.take na) = [([120], xa, 0)] := by
    rw [List.take_of_length_le (by rw [HLA.out]; exact Nat.le_refl _)]
    rfl
  have hl0 : lenF [] (⟨#[120]⟩ : ByteArray).data.toList = 0 := rfl
  have hu0 : used [] = 0 := rfl
  have hap : ∀ m : Nat, appLen (-1) m = m := fun m => by simp [appLen]
  have hA2 := nw_append (nw_drew HN1.out) ⟨#[120]⟩ A na ca xa (by simp [ByteArray.size, reach]) (by omega) (by omega) (by decide) (by omega) (rdB_nw (nw_drew HN1.out) HA.out) HLA.out hna (by unfold reach; omega) (by omega) (by omega) (by omega) (by omega) (by omega) (by rw [hap, hl0]; omega) (by rw [hap, hu0]; omega)
  rw [hap, if_neg (Nat.lt_irrefl na), hS1] at hA2
  have hc1 : chFuse true (-1) = -1 := rfl
  rw [hc1] at hA2
  have HA2 := Shut.mk hA2
  have HAP := Shut.mk hap
  clear hA2 hS1 hl0 hu0 hap HN1
  go_wp2_with fail
  refine HA2.out.mono ?_
  rintro e w2 ⟨rfl, hN2⟩
  have hY := nw_sync hN2 ⟨#[120]⟩ (by simp [ByteArray.size, reach]) (by omega) (by omega) (by omega) (b := xa) (sy := 0) rfl
  have hS2 : setF [([120], xa, 0)] (⟨#[120]⟩ : ByteArray).data.toList xa xa.length = [([120], xa, na)] := by rw [HLA.out]; rfl
  rw [hS2, hc1] at hY
  have HY := Shut.mk hY
  clear hY hN2 hS2 HA2
  go_wp2_with fail
  refine HY.out.mono ?_
  rintro e w3 ⟨rfl, hN3⟩
  have hS3 : addF [([120], xa, na)] (⟨#[120]⟩ : ByteArray).data.toList (xb.take nb) = [([120], xa ++ xb, na)] := by
    rw [List.take_of_length_le (by rw [HLB.out]; exact Nat.le_refl _)]
    rfl
  have hA3 := nw_append hN3 ⟨#[120]⟩ B nb cb xb (by simp [ByteArray.size, reach]) (by omega) (by omega) (by decide) (by omega) (rdB_nw hN3 HB.out) HLB.out hnb (by unfold reach; omega) (by omega) (by omega) (by omega) (by omega) (by omega)
    (by rw [HAP.out]; simp [lenF, look, HLA.out]; omega) (by rw [HAP.out]; simp [used, HLA.out]; omega)
  rw [HAP.out, if_neg (Nat.lt_irrefl nb), hS3, hc1] at hA3
  have HA3 := Shut.mk hA3
  clear hA3 hN3 hS3 HY
  go_wp2_with fail
  refine HA3.out.mono ?_
  rintro e w4 ⟨rfl, hN4⟩
  have hsz : (⟨#[120]⟩ : ByteArray).size ≤ maxLen := by simp [ByteArray.size, maxLen]
  have hC := nw_crash (nw_alloc hN4 (.cells #[.string ⟨#[120]⟩, .int .i64 keep, .bool turn] 43)) (some ⟨w4.heap.size, 0, none⟩) 1 [⟨⟨#[120]⟩, keep, turn, hsz⟩] (by simp) (rdT_one w4 ⟨#[120]⟩ keep turn hsz) (fun ad e _ => by cases e; simp)
  have HC := Shut.mk hC
  clear hC hN4 HA3
  go_wp2_with fail
  refine HC.out.mono ?_
  rintro e w5 ⟨rfl, hN5⟩
  obtain ⟨kk, hkk⟩ : ∃ kk, kk = min keep.toNat nb := ⟨_, rfl⟩
  have hkn : kk ≤ nb := by omega
  have HTK := Shut.mk (show (xb.take kk).length = kk by rw [List.length_take, HLB.out]; omega)
  have HRT := Shut.mk (HB.out.take kk)
  have hS5 : crashF (fun s => (tailOf [⟨⟨#[120]⟩, keep, turn, hsz⟩] s).getD zeroT) [([120], xa ++ xb, na)] = [([120], if turn = true ∧ 0 < kk then (xa ++ xb.take kk).set (na + kk - 1) ((xa ++ xb.take kk).getD (na + kk - 1) 0 ^^^ 1) else xa ++ xb.take kk, na + kk)] := by
    have ht : tailOf [(⟨⟨#[120]⟩, keep, turn, hsz⟩ : Tl)] [120] = some ⟨⟨#[120]⟩, keep, turn, hsz⟩ := rfl
    have hn : crashN ⟨⟨#[120]⟩, keep, turn, hsz⟩ (xa ++ xb).length na = na + kk := by
      unfold crashN
      rw [List.length_append, HLA.out, HLB.out, hkk]
      simp
    have htk : (xa ++ xb).take (na + kk) = xa ++ xb.take kk := by
      rw [List.take_append, HLA.out, List.take_of_length_le (by rw [HLA.out]; omega)]
      congr 2
      omega
    have hcond : (na < na + kk) = (0 < kk) := by simp
    have hg : 0 < kk → (xa ++ xb).getD (na + kk - 1) 0 = (xa ++ xb.take kk).getD (na + kk - 1) 0 := by
      intro h
      rw [← htk, List.getD_eq_getElem?_getD, List.getD_eq_getElem?_getD, List.getElem?_take, if_pos (by omega)]
    simp only [crashF, List.map_cons, List.map_nil, ht, Option.getD_some, hn]
    congr 3
    simp only [crashB, hn, htk, hcond]
    by_cases hc : turn = true ∧ 0 < kk
    · rw [if_pos hc, if_pos hc, hg hc.2]
    · rw [if_neg hc, if_neg hc]
  rw [hS5] at hN5
  have HN5 := Shut.mk hN5
  clear hN5 hS5 HC
  by_cases hk0 : keep < 0
  · obtain rfl : kk = 0 := by omega
    clear hkk
    go_wp2_with fail
    have hkcb : 0 ≤ cb := by omega
    obtain ⟨L, hL⟩ : ∃ L, L = na + 0 := ⟨_, rfl⟩
    have HLL := Shut.mk hL
    have HCL := Shut.mk (clone_n A ca na xa w5.drew ((rdB_nw HN5.out HA.out).keep (w' := w5.drew) ⟨rfl, rfl, rfl, Nat.le_refl _, fun _ _ => rfl⟩) (by rw [HLA.out]; unfold reach; omega) HLA.out)
    have HL6 := Shut.mk (show (bys (xb.take 0)).length = 0 * 1 by rw [bys_length, HTK.out, Nat.mul_one])
    have HBW := Shut.mk (rdB_nw HN5.out HRT.out)
    clear hL
    go_region_held3 (fun _ => True) (exact trivial)
      (first
        | (go_at_call 17
           refine HCL.out.mono ?_
           rintro e w6 ⟨v6, rfl, ho6, hb6, hn6⟩
           have hr6 := rd_of_rdB (HBW.out.keep (below_of_drew hb6))
           have ho6' := ho6.cast HLA.out rfl)
        | (refine step_append _ (by rfl) _ _ _ (by rfl) 5 i0 _ 1 1 Try.underlying28 hi hz0 hz1 hz2 rfl (by decide) _ _ _ (by rfl) ho6' _ 0 cb _ (by rfl) HL6.out hr6 (bys_one _) (by simp only [maxLen]; omega) (by omega) ?_
           intro v7 w7 hap
           obtain ⟨A7, c7, hv7, _⟩ := hap.own.form
           rw [← HLL.out] at hv7
           subst hv7))
    have HWLL := Shut.mk (show (xa ++ xb.take 0).length = L by rw [List.length_append, HLA.out, HTK.out, HLL.out])
    have HWL := HWLL
    have HO7 := Shut.mk (hap.own.cast (n' := L) HLL.out.symm (bys_append xa (xb.take 0)).symm)
    have hs6 := hb6.size
    have HB57 := Shut.mk ((below_of_drew hb6).grown hap.grown hs6 (fun k hk => hn6 k hk))
    have HG7 := Shut.mk (show ∀ g, (Value.slice A7 L c7).ownBlock = some g → w5.heap.size ≤ g from fun g hg => by
      rcases hap.lies with h | h
      · exact hn6 g (h ▸ hg)
      · rw [h] at hg
        cases hg
        exact hs6)
    clear hap ho6' hr6 hb6 hn6 ho6 hs6 HCL HBW
    cases turn with
    | false =>
      have hif : (if false = true ∧ 0 < 0 then (xa ++ xb.take 0).set (na + 0 - 1) ((xa ++ xb.take 0).getD (na + 0 - 1) 0 ^^^ 1) else xa ++ xb.take 0) = xa ++ xb.take 0 := if_neg (by simp; try omega)
      have HNX := Shut.mk (nw_quiet HN5.out (HB57.out))
      rw [hif, ← HLL.out] at HNX
      have OX := Shut.mk (HO7.out)
      clear hif
      have hR := nw_read HNX.out ⟨#[120]⟩ (by simp [ByteArray.size, reach]) (b := (xa ++ xb.take 0)) (sy := L) rfl
      rw [HWL.out] at hR
      have HR := Shut.mk hR
      clear hR
      go_wp2_with fail
      refine HR.out.mono ?_
      rintro e w8 ⟨v8, rfl, ho8, hN8, hb8, _⟩
      obtain ⟨A8, c8, hv8, _⟩ := ho8.form
      subst hv8
      have HE := Shut.mk (equal_calls A8 A7 L c8 L c7 (xa ++ xb.take 0) (xa ++ xb.take 0) w8 (own_rdB _ ho8) (own_rdB _ (OX.out.below hb8 (fun g hg => OX.out.block_lt hg))) HWL.out HWL.out)
      rw [beq_self_eq_true] at HE
      have HY8 := Shut.mk (nw_synced hN8 ⟨#[120]⟩ (by simp [ByteArray.size, reach]) (b := (xa ++ xb.take 0)) (sy := L) rfl)
      have hu8 : used [(([120] : List UInt8), (xa ++ xb.take 0), L)] = L := by simp only [used, List.map_cons, List.map_nil, List.sum_cons, List.sum_nil, HWL.out, Nat.add_zero]
      have hU8 := nw_used hN8
      rw [hu8] at hU8
      have HU8 := Shut.mk hU8
      clear hU8 hu8 hN8 hb8 ho8 HR
      go_wp2_with fail
      refine HE.out.mono ?_
      rintro e w' ⟨rfl, rfl⟩
      go_wp2_with fail
      refine HY8.out.mono ?_
      rintro e w' ⟨rfl, rfl⟩
      go_wp2_with fail
      refine HU8.out.mono ?_
      rintro e w9 ⟨rfl, hN9, _⟩
      go_wp2_with fail
      go_ret
      exact ⟨rfl, hN9.below⟩
    | true =>
      have hif : (if true = true ∧ 0 < 0 then (xa ++ xb.take 0).set (na + 0 - 1) ((xa ++ xb.take 0).getD (na + 0 - 1) 0 ^^^ 1) else xa ++ xb.take 0) = xa ++ xb.take 0 := if_neg (by simp; try omega)
      have HNX := Shut.mk (nw_quiet HN5.out (HB57.out))
      rw [hif, ← HLL.out] at HNX
      have OX := Shut.mk (HO7.out)
      clear hif
      have hR := nw_read HNX.out ⟨#[120]⟩ (by simp [ByteArray.size, reach]) (b := (xa ++ xb.take 0)) (sy := L) rfl
      rw [HWL.out] at hR
      have HR := Shut.mk hR
      clear hR
      go_wp2_with fail
      refine HR.out.mono ?_
      rintro e w8 ⟨v8, rfl, ho8, hN8, hb8, _⟩
      obtain ⟨A8, c8, hv8, _⟩ := ho8.form
      subst hv8
      have HE := Shut.mk (equal_calls A8 A7 L c8 L c7 (xa ++ xb.take 0) (xa ++ xb.take 0) w8 (own_rdB _ ho8) (own_rdB _ (OX.out.below hb8 (fun g hg => OX.out.block_lt hg))) HWL.out HWL.out)
      rw [beq_self_eq_true] at HE
      have HY8 := Shut.mk (nw_synced hN8 ⟨#[120]⟩ (by simp [ByteArray.size, reach]) (b := (xa ++ xb.take 0)) (sy := L) rfl)
      have hu8 : used [(([120] : List UInt8), (xa ++ xb.take 0), L)] = L := by simp only [used, List.map_cons, List.map_nil, List.sum_cons, List.sum_nil, HWL.out, Nat.add_zero]
      have hU8 := nw_used hN8
      rw [hu8] at hU8
      have HU8 := Shut.mk hU8
      clear hU8 hu8 hN8 hb8 ho8 HR
      go_wp2_with fail
      refine HE.out.mono ?_
      rintro e w' ⟨rfl, rfl⟩
      go_wp2_with fail
      refine HY8.out.mono ?_
      rintro e w' ⟨rfl, rfl⟩
      go_wp2_with fail
      refine HU8.out.mono ?_
      rintro e w9 ⟨rfl, hN9, _⟩
      go_wp2_with fail
      go_ret
      exact ⟨rfl, hN9.below⟩
  · by_cases hk1 : (nb : Int) < keep
    · obtain rfl : kk = nb := by omega
      clear hkk
      go_wp2_with fail
      have hkcb : kk ≤ cb := by omega
      obtain ⟨L, hL⟩ : ∃ L, L = na + kk := ⟨_, rfl⟩
      have HLL := Shut.mk hL
      have HCL := Shut.mk (clone_n A ca na xa w5.drew ((rdB_nw HN5.out HA.out).keep (w' := w5.drew) ⟨rfl, rfl, rfl, Nat.le_refl _, fun _ _ => rfl⟩) (by rw [HLA.out]; unfold reach; omega) HLA.out)
      have HL6 := Shut.mk (show (bys (xb.take kk)).length = kk * 1 by rw [bys_length, HTK.out, Nat.mul_one])
      have HBW := Shut.mk (rdB_nw HN5.out HRT.out)
      clear hL
      go_region_held3 (fun _ => True) (exact trivial)
        (first
          | (go_at_call 17
             refine HCL.out.mono ?_
             rintro e w6 ⟨v6, rfl, ho6, hb6, hn6⟩
             have hr6 := rd_of_rdB (HBW.out.keep (below_of_drew hb6))
             have ho6' := ho6.cast HLA.out rfl)
          | (refine step_append _ (by rfl) _ _ _ (by rfl) 5 i0 _ 1 1 Try.underlying28 hi hz0 hz1 hz2 rfl (by decide) _ _ _ (by rfl) ho6' _ kk cb _ (by rfl) HL6.out hr6 (bys_one _) (by simp only [maxLen]; omega) (by omega) ?_
             intro v7 w7 hap
             obtain ⟨A7, c7, hv7, _⟩ := hap.own.form
             rw [← HLL.out] at hv7
             subst hv7))
      have HWLL := Shut.mk (show (xa ++ xb.take kk).length = L by rw [List.length_append, HLA.out, HTK.out, HLL.out])
      have HWL := HWLL
      have HO7 := Shut.mk (hap.own.cast (n' := L) HLL.out.symm (bys_append xa (xb.take kk)).symm)
      have hs6 := hb6.size
      have HB57 := Shut.mk ((below_of_drew hb6).grown hap.grown hs6 (fun k hk => hn6 k hk))
      have HG7 := Shut.mk (show ∀ g, (Value.slice A7 L c7).ownBlock = some g → w5.heap.size ≤ g from fun g hg => by
        rcases hap.lies with h | h
        · exact hn6 g (h ▸ hg)
        · rw [h] at hg
          cases hg
          exact hs6)
      clear hap ho6' hr6 hb6 hn6 ho6 hs6 HCL HBW
      cases turn with
      | false =>
        have hif : (if false = true ∧ 0 < kk then (xa ++ xb.take kk).set (na + kk - 1) ((xa ++ xb.take kk).getD (na + kk - 1) 0 ^^^ 1) else xa ++ xb.take kk) = xa ++ xb.take kk := if_neg (by simp; try omega)
        have HNX := Shut.mk (nw_quiet HN5.out (HB57.out))
        rw [hif, ← HLL.out] at HNX
        have OX := Shut.mk (HO7.out)
        clear hif
        have hR := nw_read HNX.out ⟨#[120]⟩ (by simp [ByteArray.size, reach]) (b := (xa ++ xb.take kk)) (sy := L) rfl
        rw [HWL.out] at hR
        have HR := Shut.mk hR
        clear hR
        go_wp2_with fail
        refine HR.out.mono ?_
        rintro e w8 ⟨v8, rfl, ho8, hN8, hb8, _⟩
        obtain ⟨A8, c8, hv8, _⟩ := ho8.form
        subst hv8
        have HE := Shut.mk (equal_calls A8 A7 L c8 L c7 (xa ++ xb.take kk) (xa ++ xb.take kk) w8 (own_rdB _ ho8) (own_rdB _ (OX.out.below hb8 (fun g hg => OX.out.block_lt hg))) HWL.out HWL.out)
        rw [beq_self_eq_true] at HE
        have HY8 := Shut.mk (nw_synced hN8 ⟨#[120]⟩ (by simp [ByteArray.size, reach]) (b := (xa ++ xb.take kk)) (sy := L) rfl)
        have hu8 : used [(([120] : List UInt8), (xa ++ xb.take kk), L)] = L := by simp only [used, List.map_cons, List.map_nil, List.sum_cons, List.sum_nil, HWL.out, Nat.add_zero]
        have hU8 := nw_used hN8
        rw [hu8] at hU8
        have HU8 := Shut.mk hU8
        clear hU8 hu8 hN8 hb8 ho8 HR
        go_wp2_with fail
        refine HE.out.mono ?_
        rintro e w' ⟨rfl, rfl⟩
        go_wp2_with fail
        refine HY8.out.mono ?_
        rintro e w' ⟨rfl, rfl⟩
        go_wp2_with fail
        refine HU8.out.mono ?_
        rintro e w9 ⟨rfl, hN9, _⟩
        go_wp2_with fail
        go_ret
        exact ⟨rfl, hN9.below⟩
      | true =>
        by_cases hK0 : 0 < kk
        · have hK0I : (kk : Int) > 0 := by omega
          obtain ⟨m, hm⟩ : ∃ m, L = m + 1 := ⟨L - 1, by have := HLL.out; omega⟩
          subst hm
          have hmm : na + kk - 1 = m := by have := HLL.out; omega
          have hmb : m < 2100 := by have := HLL.out; omega
          obtain ⟨g7, cg7, hg7, _⟩ := HO7.out.head (by omega)
          have hg71 : A7 = some ⟨g7, 0, none⟩ := by injection hg7
          clear hg7
          subst hg71
          have c1 := HO7.out.cell m (bys_get (xa ++ xb.take kk) m (by rw [HWLL.out]; omega))
          have fz := HO7.out.free m
          obtain ⟨x, hx⟩ : ∃ x, x = (xa ++ xb.take kk).getD m 0 := ⟨_, rfl⟩
          rw [← hx] at c1
          have hxo := xor_one x
          have hif : (if true = true ∧ 0 < kk then (xa ++ xb.take kk).set (na + kk - 1) ((xa ++ xb.take kk).getD (na + kk - 1) 0 ^^^ 1) else xa ++ xb.take kk) = (xa ++ xb.take kk).set m (x ^^^ 1) := by
            rw [if_pos ⟨rfl, hK0⟩, hmm, ← hx]
          have OX := Shut.mk ((HO7.out.set m (.int .u8 ((x ^^^ 1).toNat : Int))).cast (n' := m + 1) rfl (bys_set _ _ _).symm)
          have HWL := Shut.mk (show ((xa ++ xb.take kk).set m (x ^^^ 1)).length = m + 1 by rw [List.length_set]; exact HWLL.out)
          have HNX := Shut.mk (nw_quiet HN5.out (HB57.out.setCell (p := ⟨g7, m, none⟩) (HG7.out g7 rfl) (.int .u8 ((x ^^^ 1).toNat : Int))))
          rw [hif, ← HLL.out] at HNX
          clear hif hx hmm
          have hR := nw_read HNX.out ⟨#[120]⟩ (by simp [ByteArray.size, reach]) (b := ((xa ++ xb.take kk).set m (x ^^^ 1))) (sy := m + 1) rfl
          rw [HWL.out] at hR
          have HR := Shut.mk hR
          clear hR
          go_wp2_with fail
          refine HR.out.mono ?_
          rintro e w8 ⟨v8, rfl, ho8, hN8, hb8, _⟩
          obtain ⟨A8, c8, hv8, _⟩ := ho8.form
          subst hv8
          have HE := Shut.mk (equal_calls A8 (some ⟨g7, 0, none⟩) (m + 1) c8 (m + 1) c7 ((xa ++ xb.take kk).set m (x ^^^ 1)) ((xa ++ xb.take kk).set m (x ^^^ 1)) w8 (own_rdB _ ho8) (own_rdB _ (OX.out.below hb8 (fun g hg => OX.out.block_lt hg))) HWL.out HWL.out)
          rw [beq_self_eq_true] at HE
          have HY8 := Shut.mk (nw_synced hN8 ⟨#[120]⟩ (by simp [ByteArray.size, reach]) (b := ((xa ++ xb.take kk).set m (x ^^^ 1))) (sy := m + 1) rfl)
          have hu8 : used [(([120] : List UInt8), ((xa ++ xb.take kk).set m (x ^^^ 1)), (m + 1))] = m + 1 := by simp only [used, List.map_cons, List.map_nil, List.sum_cons, List.sum_nil, HWL.out, Nat.add_zero]
          have hU8 := nw_used hN8
          rw [hu8] at hU8
          have HU8 := Shut.mk hU8
          clear hU8 hu8 hN8 hb8 ho8 HR
          go_wp2_with fail
          refine HE.out.mono ?_
          rintro e w' ⟨rfl, rfl⟩
          go_wp2_with fail
          refine HY8.out.mono ?_
          rintro e w' ⟨rfl, rfl⟩
          go_wp2_with fail
          refine HU8.out.mono ?_
          rintro e w9 ⟨rfl, hN9, _⟩
          go_wp2_with fail
          go_ret
          exact ⟨rfl, hN9.below⟩
        · have hK0I : ¬ (kk : Int) > 0 := by omega
          have hif : (if true = true ∧ 0 < kk then (xa ++ xb.take kk).set (na + kk - 1) ((xa ++ xb.take kk).getD (na + kk - 1) 0 ^^^ 1) else xa ++ xb.take kk) = xa ++ xb.take kk := if_neg (by simp; try omega)
          have HNX := Shut.mk (nw_quiet HN5.out (HB57.out))
          rw [hif, ← HLL.out] at HNX
          have OX := Shut.mk (HO7.out)
          clear hif
          have hR := nw_read HNX.out ⟨#[120]⟩ (by simp [ByteArray.size, reach]) (b := (xa ++ xb.take kk)) (sy := L) rfl
          rw [HWL.out] at hR
          have HR := Shut.mk hR
          clear hR
          go_wp2_with fail
          refine HR.out.mono ?_
          rintro e w8 ⟨v8, rfl, ho8, hN8, hb8, _⟩
          obtain ⟨A8, c8, hv8, _⟩ := ho8.form
          subst hv8
          have HE := Shut.mk (equal_calls A8 A7 L c8 L c7 (xa ++ xb.take kk) (xa ++ xb.take kk) w8 (own_rdB _ ho8) (own_rdB _ (OX.out.below hb8 (fun g hg => OX.out.block_lt hg))) HWL.out HWL.out)
          rw [beq_self_eq_true] at HE
          have HY8 := Shut.mk (nw_synced hN8 ⟨#[120]⟩ (by simp [ByteArray.size, reach]) (b := (xa ++ xb.take kk)) (sy := L) rfl)
          have hu8 : used [(([120] : List UInt8), (xa ++ xb.take kk), L)] = L := by simp only [used, List.map_cons, List.map_nil, List.sum_cons, List.sum_nil, HWL.out, Nat.add_zero]
          have hU8 := nw_used hN8
          rw [hu8] at hU8
          have HU8 := Shut.mk hU8
          clear hU8 hu8 hN8 hb8 ho8 HR
          go_wp2_with fail
          refine HE.out.mono ?_
          rintro e w' ⟨rfl, rfl⟩
          go_wp2_with fail
          refine HY8.out.mono ?_
          rintro e w' ⟨rfl, rfl⟩
          go_wp2_with fail
          refine HU8.out.mono ?_
          rintro e w9 ⟨rfl, hN9, _⟩
          go_wp2_with fail
          go_ret
          exact ⟨rfl, hN9.below⟩
    · obtain rfl : keep = (kk : Int) := by omega
      clear hkk
      go_wp2_with fail
      have hkcb : kk ≤ cb := by omega
      obtain ⟨L, hL⟩ : ∃ L, L = na + kk := ⟨_, rfl⟩
      have HLL := Shut.mk hL
      have HCL := Shut.mk (clone_n A ca na xa w5.drew ((rdB_nw HN5.out HA.out).keep (w' := w5.drew) ⟨rfl, rfl, rfl, Nat.le_refl _, fun _ _ => rfl⟩) (by rw [HLA.out]; unfold reach; omega) HLA.out)
      have HL6 := Shut.mk (show (bys (xb.take kk)).length = kk * 1 by rw [bys_length, HTK.out, Nat.mul_one])
      have HBW := Shut.mk (rdB_nw HN5.out HRT.out)
      clear hL
      go_region_held3 (fun _ => True) (exact trivial)
        (first
          | (go_at_call 17
             refine HCL.out.mono ?_
             rintro e w6 ⟨v6, rfl, ho6, hb6, hn6⟩
             have hr6 := rd_of_rdB (HBW.out.keep (below_of_drew hb6))
             have ho6' := ho6.cast HLA.out rfl)
          | (refine step_append _ (by rfl) _ _ _ (by rfl) 5 i0 _ 1 1 Try.underlying28 hi hz0 hz1 hz2 rfl (by decide) _ _ _ (by rfl) ho6' _ kk cb _ (by rfl) HL6.out hr6 (bys_one _) (by simp only [maxLen]; omega) (by omega) ?_
             intro v7 w7 hap
             obtain ⟨A7, c7, hv7, _⟩ := hap.own.form
             rw [← HLL.out] at hv7
             subst hv7))
      have HWLL := Shut.mk (show (xa ++ xb.take kk).length = L by rw [List.length_append, HLA.out, HTK.out, HLL.out])
      have HWL := HWLL
      have HO7 := Shut.mk (hap.own.cast (n' := L) HLL.out.symm (bys_append xa (xb.take kk)).symm)
      have hs6 := hb6.size
      have HB57 := Shut.mk ((below_of_drew hb6).grown hap.grown hs6 (fun k hk => hn6 k hk))
      have HG7 := Shut.mk (show ∀ g, (Value.slice A7 L c7).ownBlock = some g → w5.heap.size ≤ g from fun g hg => by
        rcases hap.lies with h | h
        · exact hn6 g (h ▸ hg)
        · rw [h] at hg
          cases hg
          exact hs6)
      clear hap ho6' hr6 hb6 hn6 ho6 hs6 HCL HBW
      cases turn with
      | false =>
        have hif : (if false = true ∧ 0 < kk then (xa ++ xb.take kk).set (na + kk - 1) ((xa ++ xb.take kk).getD (na + kk - 1) 0 ^^^ 1) else xa ++ xb.take kk) = xa ++ xb.take kk := if_neg (by simp; try omega)
        have HNX := Shut.mk (nw_quiet HN5.out (HB57.out))
        rw [hif, ← HLL.out] at HNX
        have OX := Shut.mk (HO7.out)
        clear hif
        have hR := nw_read HNX.out ⟨#[120]⟩ (by simp [ByteArray.size, reach]) (b := (xa ++ xb.take kk)) (sy := L) rfl
        rw [HWL.out] at hR
        have HR := Shut.mk hR
        clear hR
        go_wp2_with fail
        refine HR.out.mono ?_
        rintro e w8 ⟨v8, rfl, ho8, hN8, hb8, _⟩
        obtain ⟨A8, c8, hv8, _⟩ := ho8.form
        subst hv8
        have HE := Shut.mk (equal_calls A8 A7 L c8 L c7 (xa ++ xb.take kk) (xa ++ xb.take kk) w8 (own_rdB _ ho8) (own_rdB _ (OX.out.below hb8 (fun g hg => OX.out.block_lt hg))) HWL.out HWL.out)
        rw [beq_self_eq_true] at HE
        have HY8 := Shut.mk (nw_synced hN8 ⟨#[120]⟩ (by simp [ByteArray.size, reach]) (b := (xa ++ xb.take kk)) (sy := L) rfl)
        have hu8 : used [(([120] : List UInt8), (xa ++ xb.take kk), L)] = L := by simp only [used, List.map_cons, List.map_nil, List.sum_cons, List.sum_nil, HWL.out, Nat.add_zero]
        have hU8 := nw_used hN8
        rw [hu8] at hU8
        have HU8 := Shut.mk hU8
        clear hU8 hu8 hN8 hb8 ho8 HR
        go_wp2_with fail
        refine HE.out.mono ?_
        rintro e w' ⟨rfl, rfl⟩
        go_wp2_with fail
        refine HY8.out.mono ?_
        rintro e w' ⟨rfl, rfl⟩
        go_wp2_with fail
        refine HU8.out.mono ?_
        rintro e w9 ⟨rfl, hN9, _⟩
        go_wp2_with fail
        go_ret
        exact ⟨rfl, hN9.below⟩
      | true =>
        by_cases hK0 : 0 < kk
        · have hK0I : (kk : Int) > 0 := by omega
          obtain ⟨m, hm⟩ : ∃ m, L = m + 1 := ⟨L - 1, by have := HLL.out; omega⟩
          subst hm
          have hmm : na + kk - 1 = m := by have := HLL.out; omega
          have hmb : m < 2100 := by have := HLL.out; omega
          obtain ⟨g7, cg7, hg7, _⟩ := HO7.out.head (by omega)
          have hg71 : A7 = some ⟨g7, 0, none⟩ := by injection hg7
          clear hg7
          subst hg71
          have c1 := HO7.out.cell m (bys_get (xa ++ xb.take kk) m (by rw [HWLL.out]; omega))
          have fz := HO7.out.free m
          obtain ⟨x, hx⟩ : ∃ x, x = (xa ++ xb.take kk).getD m 0 := ⟨_, rfl⟩
          rw [← hx] at c1
          have hxo := xor_one x
          have hif : (if true = true ∧ 0 < kk then (xa ++ xb.take kk).set (na + kk - 1) ((xa ++ xb.take kk).getD (na + kk - 1) 0 ^^^ 1) else xa ++ xb.take kk) = (xa ++ xb.take kk).set m (x ^^^ 1) := by
            rw [if_pos ⟨rfl, hK0⟩, hmm, ← hx]
          have OX := Shut.mk ((HO7.out.set m (.int .u8 ((x ^^^ 1).toNat : Int))).cast (n' := m + 1) rfl (bys_set _ _ _).symm)
          have HWL := Shut.mk (show ((xa ++ xb.take kk).set m (x ^^^ 1)).length = m + 1 by rw [List.length_set]; exact HWLL.out)
          have HNX := Shut.mk (nw_quiet HN5.out (HB57.out.setCell (p := ⟨g7, m, none⟩) (HG7.out g7 rfl) (.int .u8 ((x ^^^ 1).toNat : Int))))
          rw [hif, ← HLL.out] at HNX
          clear hif hx hmm
          have hR := nw_read HNX.out ⟨#[120]⟩ (by simp [ByteArray.size, reach]) (b := ((xa ++ xb.take kk).set m (x ^^^ 1))) (sy := m + 1) rfl
          rw [HWL.out] at hR
          have HR := Shut.mk hR
          clear hR
          go_wp2_with fail
          refine HR.out.mono ?_
          rintro e w8 ⟨v8, rfl, ho8, hN8, hb8, _⟩
          obtain ⟨A8, c8, hv8, _⟩ := ho8.form
          subst hv8
          have HE := Shut.mk (equal_calls A8 (some ⟨g7, 0, none⟩) (m + 1) c8 (m + 1) c7 ((xa ++ xb.take kk).set m (x ^^^ 1)) ((xa ++ xb.take kk).set m (x ^^^ 1)) w8 (own_rdB _ ho8) (own_rdB _ (OX.out.below hb8 (fun g hg => OX.out.block_lt hg))) HWL.out HWL.out)
          rw [beq_self_eq_true] at HE
          have HY8 := Shut.mk (nw_synced hN8 ⟨#[120]⟩ (by simp [ByteArray.size, reach]) (b := ((xa ++ xb.take kk).set m (x ^^^ 1))) (sy := m + 1) rfl)
          have hu8 : used [(([120] : List UInt8), ((xa ++ xb.take kk).set m (x ^^^ 1)), (m + 1))] = m + 1 := by simp only [used, List.map_cons, List.map_nil, List.sum_cons, List.sum_nil, HWL.out, Nat.add_zero]
          have hU8 := nw_used hN8
          rw [hu8] at hU8
          have HU8 := Shut.mk hU8
          clear hU8 hu8 hN8 hb8 ho8 HR
          go_wp2_with fail
          refine HE.out.mono ?_
          rintro e w' ⟨rfl, rfl⟩
          go_wp2_with fail
          refine HY8.out.mono ?_
          rintro e w' ⟨rfl, rfl⟩
          go_wp2_with fail
          refine HU8.out.mono ?_
          rintro e w9 ⟨rfl, hN9, _⟩
          go_wp2_with fail
          go_ret
          exact ⟨rfl, hN9.below⟩
        · have hK0I : ¬ (kk : Int) > 0 := by omega
          have hif : (if true = true ∧ 0 < kk then (xa ++ xb.take kk).set (na + kk - 1) ((xa ++ xb.take kk).getD (na + kk - 1) 0 ^^^ 1) else xa ++ xb.take kk) = xa ++ xb.take kk := if_neg (by simp; try omega)
          have HNX := Shut.mk (nw_quiet HN5.out (HB57.out))
          rw [hif, ← HLL.out] at HNX
          have OX := Shut.mk (HO7.out)
          clear hif
          have hR := nw_read HNX.out ⟨#[120]⟩ (by simp [ByteArray.size, reach]) (b := (xa ++ xb.take kk)) (sy := L) rfl
          rw [HWL.out] at hR
          have HR := Shut.mk hR
          clear hR
          go_wp2_with fail
          refine HR.out.mono ?_
          rintro e w8 ⟨v8, rfl, ho8, hN8, hb8, _⟩
          obtain ⟨A8, c8, hv8, _⟩ := ho8.form
          subst hv8
          have HE := Shut.mk (equal_calls A8 A7 L c8 L c7 (xa ++ xb.take kk) (xa ++ xb.take kk) w8 (own_rdB _ ho8) (own_rdB _ (OX.out.below hb8 (fun g hg => OX.out.block_lt hg))) HWL.out HWL.out)
          rw [beq_self_eq_true] at HE
          have HY8 := Shut.mk (nw_synced hN8 ⟨#[120]⟩ (by simp [ByteArray.size, reach]) (b := (xa ++ xb.take kk)) (sy := L) rfl)
          have hu8 : used [(([120] : List UInt8), (xa ++ xb.take kk), L)] = L := by simp only [used, List.map_cons, List.map_nil, List.sum_cons, List.sum_nil, HWL.out, Nat.add_zero]
          have hU8 := nw_used hN8
          rw [hu8] at hU8
          have HU8 := Shut.mk hU8
          clear hU8 hu8 hN8 hb8 ho8 HR
          go_wp2_with fail
          refine HE.out.mono ?_
          rintro e w' ⟨rfl, rfl⟩
          go_wp2_with fail
          refine HY8.out.mono ?_
          rintro e w' ⟨rfl, rfl⟩
          go_wp2_with fail
          refine HU8.out.mono ?_
          rintro e w9 ⟨rfl, hN9, _⟩
          go_wp2_with fail
          go_ret
          exact ⟨rfl, hN9.below⟩
end Go.Proofs.Ytjmaimpfplojpaa
