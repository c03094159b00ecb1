/- Walk: the law FilesShort answers true. -/
import Derived.Test.YtjmaimpfplojpaaNew
import Derived.Test.YtjmaimpfplojpaaEqual
namespace Go.Proofs.Ytjmaimpfplojpaa
open Go.RowKit Go.Maps
set_option linter.unusedSimpArgs false
set_option linter.unusedVariables false
set_option maxRecDepth 100000

theorem own_rdB {w : World} {e size : Nat} {A : Option Addr} {cap : Nat} (n : Nat) {l : List UInt8} (h : Own w e size (.slice A n cap) n (bys l)) : RdB w A l := by
  obtain ⟨A7, c7, e7, hr7, _⟩ := h.form
  injection e7 with e7
  subst e7
  exact rdB_of_rd hr7
/-- append at an operation with a guard -/
theorem wpList_append_g {P : Program} (w : World) {ops : Array Oper} {rest : List Oper} {o : Oper} {a : Act} {Q : Exit → Act → World → Prop} (hgd : Region.wanted o (yielded ops a.tmps) = true) (s x : Operand) (t : TypeId)
    (ho : o.op = .call { callee := .builtin .append, args := #[s, x], argTypes := #[t, t] })
    (e : TypeId) (i : TypeInfo) (z : Value) (size bytes : Nat) (ht : P.underlying t = some (.slice e)) (hi : P.info? e = some i) (hz : i.zero = some z)
    (hsize : i.size = size) (hby : i.bytes = bytes) (hzs : z.cells.size = size) (hsz : 0 < size)
    (v : Value) (n : Nat) (xs : List Value) (hs : a.eval s = v) (hown : Own w e size v n xs)
    (A : Option Addr) (m c : Nat) (news : List Value) (hx : a.eval x = .slice A m c) (hl : news.length = m * size) (hr : Rd w A news) (h1 : ∀ u ∈ news, u.oneCell' = true)
    (h63 : n + m ≤ maxLen) (hbytes : (n + m) * bytes ≤ 140737488355328)
    (h : ∀ v' w', Appended w w' e size v v' n m xs news → wpList P ops Q rest (a.put o.dst v') w') : wpList P ops Q (o :: rest) a w :=
  wpList_step fun _ hK => by
    rw [if_pos hgd]
    exact wp_append w s x t ho e i z size bytes ht hi hz hsize hby hzs hsz v n xs hs hown A m c news hx hl hr h1 h63 hbytes fun v' w' hp => hK _ _ (h v' w' hp)
theorem u64_nat (a : Int) : ∃ n : Nat, IntKind.u64.wrap a = (n : Int) ∧ (n : Int) < 18446744073709551616 := by
  rw [IntKind.wrap_u64]
  exact ⟨(a % 18446744073709551616).toNat, by omega, by omega⟩
theorem tmod_nat (a b : Nat) (h : 0 < b) : ∃ m : Nat, m < b ∧ (a : Int).tmod (b : Int) = (m : Int) :=
  ⟨a % b, Nat.mod_lt _ h, by rw [Int.tmod_eq_emod_of_nonneg (by omega)]; simp⟩
set_option maxHeartbeats 2000000 in
theorem filesShort_walk (n0 : Int) (A : Option Addr) (la : List UInt8) (ca : Nat) (B : Option Addr) (lb : List UInt8) (cb : Nat) (w : World) (_ : -9223372036854775808 ≤ n0) (_ : n0 ≤ 9223372036854775807)
    (hA : RdB w A la) (hca : la.length ≤ ca) (hcam : ca ≤ maxLen) (_ : la.length ≤ reach) (hB : RdB w B lb) (hcb : lb.length ≤ cb) (hcbm : cb ≤ maxLen) (_ : lb.length ≤ reach) :
    Calls Try.prog 4 #[.int .i64 n0, .slice A la.length ca, .slice B lb.length cb] w fun e w' => e = .returned (.bool true) ∧ Below w.heap.size w w' := by
  unfold maxLen at hcam hcbm
  obtain ⟨i0, hi, hz0, hz1, hz2⟩ := info_parts info_u8
  have HA := Shut.mk (hA.take (min la.length 1000))
  have HB := Shut.mk (hB.take (min lb.length 1000))
  have HLA := Shut.mk (show (la.take (min la.length 1000)).length = min la.length 1000 by rw [List.length_take]; omega)
  have HLB := Shut.mk (show (lb.take (min lb.length 1000)).length = min lb.length 1000 by rw [List.length_take]; omega)
  go_enter Try.func4, Try.ntmps4
  go_wp2_with fail
  refine (dk_new 1048576 w (by omega) (by omega)).mono ?_
  rintro e w1 ⟨gd, rfl, hN1⟩
  have HN1 := Shut.mk hN1
  clear hN1 hA hB
  go_wp2_with fail
  go_region
  have hma : (if (1000 : Int) < (la.length : Int) then (1000 : Int) else (la.length : Int)) = ((min la.length 1000 : Nat) : Int) := by split <;> omega
  have hmb : (if (1000 : Int) < (lb.length : Int) then (1000 : Int) else (lb.length : Int)) = ((min lb.length 1000 : Nat) : Int) := by split <;> omega
  rw [hma, hmb]
  have hna : min la.length 1000 ≤ ca := by omega
  have hnb : min lb.length 1000 ≤ cb := by omega
  have hna2 : min la.length 1000 ≤ 1000 := by omega
  have hnb2 : min lb.length 1000 ≤ 1000 := by omega
  clear hma hmb
  generalize min la.length 1000 = na at HA HLA hna hna2 ⊢
  generalize min lb.length 1000 = nb at HB HLB hnb hnb2 ⊢
  generalize la.take na = xa at HA HLA
  generalize lb.take nb = xb at HB HLB
  obtain ⟨N0, hw0, hN0⟩ := u64_nat n0
  obtain ⟨sh, hsh, ht0⟩ := tmod_nat N0 1200 (by omega)
  have ht : (N0 : Int).tmod 1200 = (sh : Int) := ht0
  have hwi : IntKind.i64.wrap (sh : Int) = (sh : Int) := by rw [IntKind.wrap_i64]; omega
  clear hca hcb
  simp only [Int.toNat_natCast]
  go_wp2_with fail
  refine (nw_short (nw_drew HN1.out) (sh : Int) (by omega)).mono ?_
  rintro e w2 ⟨rfl, hN2⟩
  have HN2 := Shut.mk hN2
  have hk : appLen (sh : Int) na = min sh na := by unfold appLen; split <;> omega
  have hl0 : lenF [] (⟨#[102]⟩ : ByteArray).data.toList = 0 := rfl
  have hu0 : used [] = 0 := rfl
  have hA2 := Shut.mk (nw_append hN2 ⟨#[102]⟩ A na ca xa (by simp [ByteArray.size, reach]) (by omega) (by omega) (by decide) (by omega) (rdB_nw hN2 HA.out) HLA.out hna (by unfold reach; omega) (by omega) (by omega) (by omega) (by omega) (by omega) (by rw [hk, hl0]; omega) (by rw [hk, hu0]; omega))
  rw [hk] at hA2
  have hmk1 : min sh na ≤ na := Nat.min_le_right _ _
  clear hN2 HN1 hl0 hu0 hw0 hN0 ht0 ht hwi hk
  rcases Nat.lt_trichotomy sh na with hcase | hcase | hcase
  · have hcI : (sh : Int) < (na : Int) := by omega
    have hd1 : decide (na ≤ sh) = false := decide_eq_false (by omega)
    have hd2 : decide (sh < na) = true := decide_eq_true hcase
    have hca' : sh ≤ ca := by omega
    rw [Nat.min_eq_left (Nat.le_of_lt hcase), if_pos hcase] at hA2
    go_wp2_with fail
    refine hA2.out.mono ?_
    rintro e w3 ⟨rfl, hN3⟩
    have hS3 : addF [] (⟨#[102]⟩ : ByteArray).data.toList (xa.take sh) = [([102], xa.take sh, 0)] := rfl
    rw [hS3] at hN3
    have HTK := Shut.mk (show (xa.take sh).length = sh by rw [List.length_take, HLA.out]; omega)
    have HWT := Shut.mk (HA.out.take sh)
    generalize xa.take sh = want at hN3 HTK HWT
    have hA3 := Shut.mk (nw_append hN3 ⟨#[102]⟩ B nb cb xb (by simp [ByteArray.size, reach]) (by unfold chFuse; split <;> omega) (by unfold chFuse; split <;> omega) (by decide) (by unfold chFuse; split <;> omega) (rdB_nw hN3 HB.out) HLB.out hnb (by unfold reach; omega) (by omega) (by omega) (by omega) (by omega) (by omega)
      (by simp [lenF, look, appLen, HTK.out]; omega) (by simp [used, appLen, HTK.out]; omega))
    have hk3 : appLen (-1) nb = nb := by simp [appLen]
    rw [hk3, if_neg (Nat.lt_irrefl nb)] at hA3
    have hS4 : addF [([102], want, 0)] (⟨#[102]⟩ : ByteArray).data.toList (xb.take nb) = [([102], want ++ xb, 0)] := by
      rw [List.take_of_length_le (by rw [HLB.out]; exact Nat.le_refl _)]
      rfl
    rw [hS4] at hA3
    have HB3 := Shut.mk (rdB_nw hN3 HWT.out)
    clear hA2 hN3 hk3 hS3 hS4
    go_wp2_with fail
    refine hA3.out.mono ?_
    rintro e w4 ⟨rfl, hN4⟩
    have hR := Shut.mk (nw_read hN4 ⟨#[102]⟩ (by simp [ByteArray.size, reach]) (b := want ++ xb) (sy := 0) rfl)
    clear hA3 hN4
    go_wp2_with fail
    refine hR.out.mono ?_
    rintro e w5 ⟨v5, rfl, ho5, hN5, hb5, hn5⟩
    have ho5 := ho5.cast (n' := sh + nb) (by rw [List.length_append, HTK.out, HLB.out]) rfl
    obtain ⟨A5, c5, hv5, _⟩ := ho5.form
    subst hv5
    have HO5 := Shut.mk ho5
    have HN5 := Shut.mk hN5
    have HBW5 := Shut.mk (rdB_nw hN5 HWT.out)
    have HBB5 := Shut.mk (rdB_nw hN5 HB.out)
    clear hR ho5 hN5 hb5 hn5
    have HC := Shut.mk (clone_n A ca sh want w5 HBW5.out (by rw [HTK.out]; unfold reach; omega) HTK.out)
    go_wp2_with fail
    refine HC.out.mono ?_
    rintro e w6 ⟨v6, rfl, ho6, hb6, hn6⟩
    have HL6 := Shut.mk (show (bys xb).length = nb * 1 by rw [bys_length, HLB.out, Nat.mul_one])
    have HR6 := Shut.mk (rd_of_rdB (HBB5.out.keep hb6))
    have HO56 := Shut.mk (HO5.out.below hb6 (fun g hg => HO5.out.block_lt hg))
    have HB6 := Shut.mk (HN5.out.below.trans (hb6.mono HN5.out.below.size))
    have HNV6 := Shut.mk hn6
    have HLT5 := Shut.mk (fun g hg => HO5.out.block_lt (g := g) hg)
    have HSZ := Shut.mk (Nat.le_trans HN5.out.below.size hb6.size)
    have HSZ5 := Shut.mk HN5.out.below.size
    have ho6' := ho6.cast HTK.out rfl
    clear ho6 hb6 hn6 HC
    go_wp2_with (
      at_builtin
      (refine wpList_append_g _ (by rfl) (.tmp 97) (.tmp 98) _ rfl 5 i0 _ 1 1 Try.underlying28 hi hz0 hz1 hz2 rfl (by decide) _ _ _ rfl ho6' _ nb cb _ rfl HL6.out HR6.out (bys_one _) (by simp only [maxLen]; omega) (by omega) ?_)
      intro v7 w7 hap
      obtain ⟨A7, c7, hv7, _⟩ := hap.own.form
      subst hv7
      (have HAP := Shut.mk hap)
      clear hap)
    have HQ := Shut.mk (HO56.out.grown HAP.out.grown (fun g hg e => by have h1 := HNV6.out g e; have h2 := HLT5.out g hg; omega))
    have HE := Shut.mk (equal_calls A5 A7 (sh + nb) c5 (sh + nb) c7 (want ++ xb) (want ++ xb) w7 (own_rdB _ HQ.out) (own_rdB _ (HAP.out.own.cast (n' := sh + nb) rfl (bys_append want xb).symm)) (by rw [List.length_append, HTK.out, HLB.out]) (by rw [List.length_append, HTK.out, HLB.out]))
    rw [beq_self_eq_true] at HE
    refine HE.out.mono ?_
    rintro e w' ⟨rfl, rfl⟩
    go_wp2_with fail
    go_ret
    exact ⟨rfl, HB6.out.grown HAP.out.grown (by have := HSZ.out; omega) (fun k hk => Nat.le_trans HSZ5.out (HNV6.out k hk))⟩
  · subst hcase
    rw [Nat.min_self, if_neg (Nat.lt_irrefl sh)] at hA2
    go_wp2_with fail
    refine hA2.out.mono ?_
    rintro e w3 ⟨rfl, hN3⟩
    have hS3 : addF [] (⟨#[102]⟩ : ByteArray).data.toList (xa.take sh) = [([102], xa.take sh, 0)] := rfl
    rw [hS3] at hN3
    have HTK := Shut.mk (show (xa.take sh).length = sh by rw [List.length_take, HLA.out]; omega)
    have HWT := Shut.mk (HA.out.take sh)
    generalize xa.take sh = want at hN3 HTK HWT
    have hA3 := Shut.mk (nw_append hN3 ⟨#[102]⟩ B nb cb xb (by simp [ByteArray.size, reach]) (by unfold chFuse; split <;> omega) (by unfold chFuse; split <;> omega) (by decide) (by unfold chFuse; split <;> omega) (rdB_nw hN3 HB.out) HLB.out hnb (by unfold reach; omega) (by omega) (by omega) (by omega) (by omega) (by omega)
      (by simp [lenF, look, appLen, HTK.out]; omega) (by simp [used, appLen, HTK.out]; omega))
    have hk3 : appLen (-1) nb = nb := by simp [appLen]
    rw [hk3, if_neg (Nat.lt_irrefl nb)] at hA3
    have hS4 : addF [([102], want, 0)] (⟨#[102]⟩ : ByteArray).data.toList (xb.take nb) = [([102], want ++ xb, 0)] := by
      rw [List.take_of_length_le (by rw [HLB.out]; exact Nat.le_refl _)]
      rfl
    rw [hS4] at hA3
    have HB3 := Shut.mk (rdB_nw hN3 HWT.out)
    clear hA2 hN3 hk3 hS3 hS4
    go_wp2_with fail
    refine hA3.out.mono ?_
    rintro e w4 ⟨rfl, hN4⟩
    have hR := Shut.mk (nw_read hN4 ⟨#[102]⟩ (by simp [ByteArray.size, reach]) (b := want ++ xb) (sy := 0) rfl)
    clear hA3 hN4
    go_wp2_with fail
    refine hR.out.mono ?_
    rintro e w5 ⟨v5, rfl, ho5, hN5, hb5, hn5⟩
    have ho5 := ho5.cast (n' := sh + nb) (by rw [List.length_append, HTK.out, HLB.out]) rfl
    obtain ⟨A5, c5, hv5, _⟩ := ho5.form
    subst hv5
    have HO5 := Shut.mk ho5
    have HN5 := Shut.mk hN5
    have HBW5 := Shut.mk (rdB_nw hN5 HWT.out)
    have HBB5 := Shut.mk (rdB_nw hN5 HB.out)
    clear hR ho5 hN5 hb5 hn5
    have HC := Shut.mk (clone_n A ca sh want w5 HBW5.out (by rw [HTK.out]; unfold reach; omega) HTK.out)
    go_wp2_with fail
    refine HC.out.mono ?_
    rintro e w6 ⟨v6, rfl, ho6, hb6, hn6⟩
    have HL6 := Shut.mk (show (bys xb).length = nb * 1 by rw [bys_length, HLB.out, Nat.mul_one])
    have HR6 := Shut.mk (rd_of_rdB (HBB5.out.keep hb6))
    have HO56 := Shut.mk (HO5.out.below hb6 (fun g hg => HO5.out.block_lt hg))
    have HB6 := Shut.mk (HN5.out.below.trans (hb6.mono HN5.out.below.size))
    have HNV6 := Shut.mk hn6
    have HLT5 := Shut.mk (fun g hg => HO5.out.block_lt (g := g) hg)
    have HSZ := Shut.mk (Nat.le_trans HN5.out.below.size hb6.size)
    have HSZ5 := Shut.mk HN5.out.below.size
    have ho6' := ho6.cast HTK.out rfl
    clear ho6 hb6 hn6 HC
    go_wp2_with (
      at_builtin
      (refine wpList_append_g _ (by rfl) (.tmp 97) (.tmp 98) _ rfl 5 i0 _ 1 1 Try.underlying28 hi hz0 hz1 hz2 rfl (by decide) _ _ _ rfl ho6' _ nb cb _ rfl HL6.out HR6.out (bys_one _) (by simp only [maxLen]; omega) (by omega) ?_)
      intro v7 w7 hap
      obtain ⟨A7, c7, hv7, _⟩ := hap.own.form
      subst hv7
      (have HAP := Shut.mk hap)
      clear hap)
    have HQ := Shut.mk (HO56.out.grown HAP.out.grown (fun g hg e => by have h1 := HNV6.out g e; have h2 := HLT5.out g hg; omega))
    have HE := Shut.mk (equal_calls A5 A7 (sh + nb) c5 (sh + nb) c7 (want ++ xb) (want ++ xb) w7 (own_rdB _ HQ.out) (own_rdB _ (HAP.out.own.cast (n' := sh + nb) rfl (bys_append want xb).symm)) (by rw [List.length_append, HTK.out, HLB.out]) (by rw [List.length_append, HTK.out, HLB.out]))
    rw [beq_self_eq_true] at HE
    refine HE.out.mono ?_
    rintro e w' ⟨rfl, rfl⟩
    go_wp2_with fail
    go_ret
    exact ⟨rfl, HB6.out.grown HAP.out.grown (by have := HSZ.out; omega) (fun k hk => Nat.le_trans HSZ5.out (HNV6.out k hk))⟩
  · have hcI : ¬ (na : Int) > (sh : Int) := by omega
    have hcJ : (na : Int) < (sh : Int) := by omega
    have hd1 : decide (na ≤ sh) = true := decide_eq_true (by omega)
    have hd2 : decide (sh < na) = false := decide_eq_false (by omega)
    rw [Nat.min_eq_right (by omega), if_neg (Nat.lt_irrefl na)] at hA2
    go_wp2_with fail
    refine hA2.out.mono ?_
    rintro e w3 ⟨rfl, hN3⟩
    have hS3 : addF [] (⟨#[102]⟩ : ByteArray).data.toList (xa.take na) = [([102], xa.take na, 0)] := rfl
    rw [hS3] at hN3
    have HTK := Shut.mk (show (xa.take na).length = na by rw [List.length_take, HLA.out]; omega)
    have HWT := Shut.mk (HA.out.take na)
    generalize xa.take na = want at hN3 HTK HWT
    have hA3 := Shut.mk (nw_append hN3 ⟨#[102]⟩ B nb cb xb (by simp [ByteArray.size, reach]) (by unfold chFuse; split <;> omega) (by unfold chFuse; split <;> omega) (by decide) (by unfold chFuse; split <;> omega) (rdB_nw hN3 HB.out) HLB.out hnb (by unfold reach; omega) (by omega) (by omega) (by omega) (by omega) (by omega)
      (by simp [lenF, look, appLen, HTK.out]; omega) (by simp [used, appLen, HTK.out]; omega))
    have hk3 : appLen (-1) nb = nb := by simp [appLen]
    rw [hk3, if_neg (Nat.lt_irrefl nb)] at hA3
    have hS4 : addF [([102], want, 0)] (⟨#[102]⟩ : ByteArray).data.toList (xb.take nb) = [([102], want ++ xb, 0)] := by
      rw [List.take_of_length_le (by rw [HLB.out]; exact Nat.le_refl _)]
      rfl
    rw [hS4] at hA3
    have HB3 := Shut.mk (rdB_nw hN3 HWT.out)
    clear hA2 hN3 hk3 hS3 hS4
    go_wp2_with fail
    refine hA3.out.mono ?_
    rintro e w4 ⟨rfl, hN4⟩
    have hR := Shut.mk (nw_read hN4 ⟨#[102]⟩ (by simp [ByteArray.size, reach]) (b := want ++ xb) (sy := 0) rfl)
    clear hA3 hN4
    go_wp2_with fail
    refine hR.out.mono ?_
    rintro e w5 ⟨v5, rfl, ho5, hN5, hb5, hn5⟩
    have ho5 := ho5.cast (n' := na + nb) (by rw [List.length_append, HTK.out, HLB.out]) rfl
    obtain ⟨A5, c5, hv5, _⟩ := ho5.form
    subst hv5
    have HO5 := Shut.mk ho5
    have HN5 := Shut.mk hN5
    have HBW5 := Shut.mk (rdB_nw hN5 HWT.out)
    have HBB5 := Shut.mk (rdB_nw hN5 HB.out)
    clear hR ho5 hN5 hb5 hn5
    have HC := Shut.mk (clone_n A ca na want w5 HBW5.out (by rw [HTK.out]; unfold reach; omega) HTK.out)
    go_wp2_with fail
    refine HC.out.mono ?_
    rintro e w6 ⟨v6, rfl, ho6, hb6, hn6⟩
    have HL6 := Shut.mk (show (bys xb).length = nb * 1 by rw [bys_length, HLB.out, Nat.mul_one])
    have HR6 := Shut.mk (rd_of_rdB (HBB5.out.keep hb6))
    have HO56 := Shut.mk (HO5.out.below hb6 (fun g hg => HO5.out.block_lt hg))
    have HB6 := Shut.mk (HN5.out.below.trans (hb6.mono HN5.out.below.size))
    have HNV6 := Shut.mk hn6
    have HLT5 := Shut.mk (fun g hg => HO5.out.block_lt (g := g) hg)
    have HSZ := Shut.mk (Nat.le_trans HN5.out.below.size hb6.size)
    have HSZ5 := Shut.mk HN5.out.below.size
    have ho6' := ho6.cast HTK.out rfl
    clear ho6 hb6 hn6 HC
    go_wp2_with (
      at_builtin
      (refine wpList_append_g _ (by rfl) (.tmp 97) (.tmp 98) _ rfl 5 i0 _ 1 1 Try.underlying28 hi hz0 hz1 hz2 rfl (by decide) _ _ _ rfl ho6' _ nb cb _ rfl HL6.out HR6.out (bys_one _) (by simp only [maxLen]; omega) (by omega) ?_)
      intro v7 w7 hap
      obtain ⟨A7, c7, hv7, _⟩ := hap.own.form
      subst hv7
      (have HAP := Shut.mk hap)
      clear hap)
    have HQ := Shut.mk (HO56.out.grown HAP.out.grown (fun g hg e => by have h1 := HNV6.out g e; have h2 := HLT5.out g hg; omega))
    have HE := Shut.mk (equal_calls A5 A7 (na + nb) c5 (na + nb) c7 (want ++ xb) (want ++ xb) w7 (own_rdB _ HQ.out) (own_rdB _ (HAP.out.own.cast (n' := na + nb) rfl (bys_append want xb).symm)) (by rw [List.length_append, HTK.out, HLB.out]) (by rw [List.length_append, HTK.out, HLB.out]))
    rw [beq_self_eq_true] at HE
    refine HE.out.mono ?_
    rintro e w' ⟨rfl, rfl⟩
    go_wp2_with fail
    go_ret
    exact ⟨rfl, HB6.out.grown HAP.out.grown (by have := HSZ.out; omega) (fun k hk => Nat.le_trans HSZ5.out (HNV6.out k hk))⟩
end Go.Proofs.Ytjmaimpfplojpaa
