/- Walk: the law DigestBlocks answers true, whatever the numbers. -/
import Derived.Test.YtbihdfpphekehaaDoorTells
namespace Go.Proofs.YtbihdfpphekehaaDoor
open Go.RowKit
set_option linter.unusedSimpArgs false
set_option linter.unusedVariables false

theorem u64_nat (a : Int) : ∃ n : Nat, IntKind.u64.wrap a = (n : Int) ∧ (n : Int) < 18446744073709551616 := by
  rw [IntKind.wrap_u64]
  exact ⟨(a % 18446744073709551616).toNat, by omega, by omega⟩
theorem tmod_nat (a b : Nat) (h : 0 < b) : ∃ m : Nat, m < b ∧ (a : Int).tmod (b : Int) = (m : Int) :=
  ⟨a % b, Nat.mod_lt _ h, by rw [Int.tmod_eq_emod_of_nonneg (by omega)]; simp⟩
/-- make in a region with a guard -/
theorem wpList_make_g {P : Program} (w : World) {ops : Array Oper} {rest : List Oper} {o : Oper} {a : Act} {Q : Exit → Act → World → Prop}
    (hg : Region.wanted o (yielded ops a.tmps) = true) (l c : Operand) (t : TypeId) (hop : o.op = Op.makeSlice t l c)
    (e : TypeId) (i : TypeInfo) (z : Value) (ht : P.underlying t = some (.slice e)) (hi : P.info? e = some i) (hz : i.zero = some z) (hsize : i.size = 1) (hz1 : z.cells = #[z])
    (kl kc : IntKind) (n m : Nat) (hl : a.eval l = .int kl (n : Int)) (hc : a.eval c = .int kc (m : Int)) (hnm : n ≤ m) (hbytes : i.bytes * m ≤ 281474976710656) (h63 : m ≤ 9223372036854775807)
    (hK : wpList P ops Q rest (a.put o.dst (.slice (some ⟨w.heap.size, 0, none⟩) n m)) (w.alloc (.cells (madeCells #[z] m) e))) :
    wpList P ops Q (o :: rest) a w := by
  refine wpList_step fun K hK' => ?_
  rw [if_pos hg]
  have hb' : (i.bytes : Int) * (m : Int) ≤ 281474976710656 := by
    have h : ((i.bytes * m : Nat) : Int) ≤ 281474976710656 := by omega
    rwa [Int.natCast_mul] at h
  have hrun := run_make (P := P) w t e i z ht hi hz kl kc n m (by omega) (by omega) hb' (by omega)
  simp only [Int.toNat_natCast, hsize, Nat.mul_one, hz1] at hrun
  unfold Oper.wp
  simp [execOp, hop, hl, hc, hrun, Result.andThen]
  exact hK' _ _ hK
set_option maxRecDepth 100000 in
set_option maxHeartbeats 1000000 in
theorem digestBlocks_walk (a0 a1 a2 : Int) (w : World) (h0 : -9223372036854775808 ≤ a0) (h0' : a0 ≤ 9223372036854775807) (h1 : -9223372036854775808 ≤ a1) (h1' : a1 ≤ 9223372036854775807) (h2 : -9223372036854775808 ≤ a2) (h2' : a2 ≤ 9223372036854775807)
    (hk : Rd w (some ⟨1, 0, none⟩) (wds Psha.ks)) (hbg : Rd w (some ⟨0, 0, none⟩) (wds Psha.iv.list)) :
    Calls Tryd.prog 3 #[.int .i64 a0, .int .i64 a1, .int .i64 a2] w fun e w' => e = .returned (.bool true) ∧ Below w.heap.size w w' := by
  have HGK := Shut.mk hk
  have HGB := Shut.mk hbg
  clear hk hbg
  obtain ⟨i0, hi, hz0, hz1, hz2⟩ := info_parts info_u8
  obtain ⟨N0, hN0, hB0⟩ := u64_nat a0
  obtain ⟨N1, hN1, hB1⟩ := u64_nat a1
  obtain ⟨N2, hN2, hB2⟩ := u64_nat a2
  obtain ⟨m, hm, hT0⟩ := tmod_nat N0 300 (by omega)
  obtain ⟨q, hq, hT2⟩ := tmod_nat N2 255 (by omega)
  obtain ⟨j, hj, hT1⟩ := tmod_nat N1 (1 + m) (by omega)
  have hT0' : ((N0 : Int).tmod 300) = (m : Int) := hT0
  have hT2' : ((N2 : Int).tmod 255) = (q : Int) := hT2
  clear hT0 hT2
  go_enter Tryd.func3, Tryd.ntmps3
  go_wp2_with (
    refine wpList_make_cap w rfl (.tmp 16) (.tmp 16) _ rfl 5 i0 (.int .u8 0) Tryd.underlying23 hi hz0 hz1 rfl .i64 .i64 (1 + m) (1 + m) (by show Value.int _ _ = Value.int _ _; congr 1) (by show Value.int _ _ = Value.int _ _; congr 1) (by omega) (by rw [hz2]; omega) (by omega) ?_
    obtain ⟨W1, hW1⟩ : ∃ W, W = w.alloc (.cells (madeCells #[.int .u8 0] (1 + m)) 5) := ⟨_, rfl⟩
    have ho1 : Own W1 5 1 (.slice (some ⟨w.heap.size, 0, none⟩) (1 + m) (1 + m)) (1 + m) (bys (List.replicate (1 + m) 0)) := by
      rw [hW1]
      exact own_made w _ _ _ (by omega) (by simp [maxLen]; omega)
    have hb1 : Below w.heap.size w W1 := by
      rw [hW1]
      exact (Below.refl _ w).alloc (Nat.le_refl _) _
    rw [← hW1]
    clear hW1)
  have hr1 := rdB_of_rd ho1.rd_of
  refine (dsum_calls _ _ (1 + m) (List.replicate (1 + m) 0) _ hr1 (by simp) (by unfold reach; omega) (HGK.out.keep hb1) (HGB.out.keep hb1)).mono ?_
  rintro e w2 ⟨v2, rfl, ho2, hb2, hn2⟩
  have hb02 : Below w.heap.size w w2 := hb1.trans (hb2.mono hb1.size)
  rw [Psha.sha_length] at ho2
  obtain ⟨g2, c2, rfl, hc2, _⟩ := ho2.head (by omega)
  have hg2 : w.heap.size < g2 := Nat.lt_of_lt_of_le (ho1.block_lt (g := w.heap.size) rfl) (hn2 g2 rfl)
  have HO2 := Shut.mk ho2
  have ho12 := ho1.below hb2 (fun g hg => ho1.block_lt hg)
  have hcj := ho12.cell j (bys_get (List.replicate (1 + m) 0) j (by simp; omega))
  have hz : (List.replicate (1 + m) (0 : UInt8)).getD j 0 = 0 := by
    simp [List.getD_eq_getElem?_getD, hj]
  rw [hz] at hcj
  have hcj' : w2.cell? ⟨w.heap.size, j, none⟩ = some (.int .u8 0) := hcj
  have hfj := ho12.free j
  have HO12 := Shut.mk ho12
  have hT1' : (N1 : Int).tmod (1 + (m : Int)) = (j : Int) := by rw [← hT1]; congr 1
  clear ho2 hn2 ho12 hcj hT1 hr1 ho1 hb2 hb1
  go_wp2_with fail
  obtain ⟨y, hy⟩ : ∃ y : UInt8, bits BinOp.xor IntKind.u8 0 (1 + (q : Int)) = (y.toNat : Int) := by
    refine ⟨0 ^^^ UInt8.ofNat (1 + q), ?_⟩
    rw [← Pcrc.xor_u8, UInt8.toNat_ofNat', show ((1 + q) % 2 ^ 8 : Nat) = 1 + q from by omega]
    congr 1
  rw [hy]
  clear hy
  have ho3 : Own (w2.setCell ⟨w.heap.size, j, none⟩ (.int .u8 (y.toNat : Int))) 5 1 (.slice (some ⟨w.heap.size, 0, none⟩) (1 + m) (1 + m)) (1 + m) (bys ((List.replicate (1 + m) 0).set j y)) := (HO12.out.set j _).cast rfl (by rw [bys_set])
  have HO23 := Shut.mk (HO2.out.far (p := ⟨w.heap.size, j, none⟩) (u := .int .u8 (y.toNat : Int)) (by show g2 ≠ w.heap.size; omega))
  have hb03 := hb02.setCell (p := ⟨w.heap.size, j, none⟩) (Nat.le_refl _) (.int .u8 (y.toNat : Int))
  generalize w2.setCell ⟨w.heap.size, j, none⟩ (.int .u8 (y.toNat : Int)) = w3 at ho3 HO23 hb03 ⊢
  have hLl : ((List.replicate (1 + m) (0 : UInt8)).set j y).length = 1 + m := by simp
  generalize (List.replicate (1 + m) (0 : UInt8)).set j y = L at ho3 hLl
  have HLL := Shut.mk hLl
  have HO3 := Shut.mk ho3
  have hr3 := rdB_of_rd ho3.rd_of
  clear ho3 hcj' hfj hb02 hLl
  refine (dsum_calls _ _ (1 + m) L _ hr3 HLL.out (by unfold reach; omega) (HGK.out.keep hb03) (HGB.out.keep hb03)).mono ?_
  rintro e w4 ⟨v4, rfl, ho4, hb4, hn4⟩
  have hb04 : Below w.heap.size w w4 := hb03.trans (hb4.mono hb03.size)
  rw [Psha.sha_length] at ho4
  obtain ⟨g4, c4, rfl, hc4, _⟩ := ho4.head (by omega)
  have HO4 := Shut.mk ho4
  have HO24 := Shut.mk (HO23.out.below hb4 (fun g hg => HO23.out.block_lt hg))
  have HO34 := Shut.mk (HO3.out.below hb4 (fun g hg => HO3.out.block_lt hg))
  have hrt := (rdB_of_rd HO34.out.rd_of).take m
  have HRT := Shut.mk hrt
  clear ho4 hn4 hr3 hb03 hb4
  go_wp2_with fail
  refine (dsum_calls _ _ m (L.take m) _ HRT.out (by rw [List.length_take, HLL.out]; omega) (by unfold reach; omega) (HGK.out.keep hb04) (HGB.out.keep hb04)).mono ?_
  rintro e w5 ⟨v5, rfl, ho5, hb5, hn5⟩
  have hb05 : Below w.heap.size w w5 := hb04.trans (hb5.mono hb04.size)
  rw [Psha.sha_length] at ho5
  obtain ⟨g5, c5, rfl, hc5, _⟩ := ho5.head (by omega)
  have HO5 := Shut.mk ho5
  have HO45 := Shut.mk (HO4.out.below hb5 (fun g hg => HO4.out.block_lt hg))
  have HO25 := Shut.mk (HO24.out.below hb5 (fun g hg => HO24.out.block_lt hg))
  have HO35 := Shut.mk (HO34.out.below hb5 (fun g hg => HO34.out.block_lt hg))
  clear ho5 hn5 hb04 hb5 hrt
  go_wp2_with (
    refine wpList_make_g w5 (by rfl) (.tmp 58) (.tmp 58) _ rfl 5 i0 (.int .u8 0) Tryd.underlying23 hi hz0 hz1 rfl .i64 .i64 (1 + m) (1 + m) (by show Value.int _ _ = Value.int _ _; congr 1) (by show Value.int _ _ = Value.int _ _; congr 1) (by omega) (by rw [hz2]; omega) (by omega) ?_
    obtain ⟨W6, hW6⟩ : ∃ W, W = w5.alloc (.cells (madeCells #[.int .u8 0] (1 + m)) 5) := ⟨_, rfl⟩
    have ho6 : Own W6 5 1 (.slice (some ⟨w5.heap.size, 0, none⟩) (1 + m) (1 + m)) (1 + m) (bys (List.replicate (1 + m) 0)) := by
      rw [hW6]
      exact own_made w5 _ _ _ (by omega) (by simp [maxLen]; omega)
    have hb6 : Below w5.heap.size w5 W6 := by
      rw [hW6]
      exact (Below.refl _ w5).alloc (Nat.le_refl _) _
    rw [← hW6]
    clear hW6)
  have hb06 := hb05.trans (hb6.mono hb05.size)
  have hr6 := rdB_of_rd ho6.rd_of
  have HO26 := Shut.mk (HO25.out.below hb6 (fun g hg => HO25.out.block_lt hg))
  have HO36 := Shut.mk (HO35.out.below hb6 (fun g hg => HO35.out.block_lt hg))
  have HO46 := Shut.mk (HO45.out.below hb6 (fun g hg => HO45.out.block_lt hg))
  have HO56 := Shut.mk (HO5.out.below hb6 (fun g hg => HO5.out.block_lt hg))
  clear ho6 hb6 hb05
  refine (rsum_calls _ _ (1 + m) (List.replicate (1 + m) 0) _ hr6 (by simp) (by unfold reach; omega)).mono ?_
  rintro e w7 ⟨v7, rfl, ho7, hb7, hn7⟩
  have hb07 : Below w.heap.size w w7 := hb06.trans (hb7.mono hb06.size)
  rw [Psha.sha_length] at ho7
  obtain ⟨g7, c7, rfl, hc7, _⟩ := ho7.head (by omega)
  have hr7 := rdB_of_rd ho7.rd_of
  have HO27 := Shut.mk (HO26.out.below hb7 (fun g hg => HO26.out.block_lt hg))
  have HO37 := Shut.mk (HO36.out.below hb7 (fun g hg => HO36.out.block_lt hg))
  have HO47 := Shut.mk (HO46.out.below hb7 (fun g hg => HO46.out.block_lt hg))
  have HO57 := Shut.mk (HO56.out.below hb7 (fun g hg => HO56.out.block_lt hg))
  have HE := Shut.mk (equal_calls _ _ 32 c2 32 c7 (Psha.sha (List.replicate (1 + m) 0)) (Psha.sha (List.replicate (1 + m) 0)) _ (rdB_of_rd HO27.out.rd_of) hr7 (Psha.sha_length _) (Psha.sha_length _))
  clear ho7 hn7 hb7 hb06 hr7 hr6
  go_wp2_with fail
  refine HE.out.mono ?_
  rintro e w' ⟨rfl, rfl⟩
  rw [beq_self_eq_true]
  clear HE
  have hr3 := rdB_of_rd HO37.out.rd_of
  go_wp2_with fail
  refine (rsum_calls _ _ (1 + m) L _ hr3 HLL.out (by unfold reach; omega)).mono ?_
  rintro e w8 ⟨v8, rfl, ho8, hb8, hn8⟩
  have hb08 : Below w.heap.size w w8 := hb07.trans (hb8.mono hb07.size)
  rw [Psha.sha_length] at ho8
  obtain ⟨g8, c8, rfl, hc8, _⟩ := ho8.head (by omega)
  have hr8 := rdB_of_rd ho8.rd_of
  have HO38 := Shut.mk (HO37.out.below hb8 (fun g hg => HO37.out.block_lt hg))
  have HO48 := Shut.mk (HO47.out.below hb8 (fun g hg => HO47.out.block_lt hg))
  have HO58 := Shut.mk (HO57.out.below hb8 (fun g hg => HO57.out.block_lt hg))
  have HE := Shut.mk (equal_calls _ _ 32 c4 32 c8 (Psha.sha L) (Psha.sha L) _ (rdB_of_rd HO48.out.rd_of) hr8 (Psha.sha_length _) (Psha.sha_length _))
  clear ho8 hn8 hb8 hb07 hr8 hr3
  go_wp2_with fail
  refine HE.out.mono ?_
  rintro e w' ⟨rfl, rfl⟩
  rw [beq_self_eq_true]
  clear HE
  have HRT := Shut.mk ((rdB_of_rd HO38.out.rd_of).take m)
  go_wp2_with fail
  refine (rsum_calls _ _ m (L.take m) _ HRT.out (by rw [List.length_take, HLL.out]; omega) (by unfold reach; omega)).mono ?_
  rintro e w9 ⟨v9, rfl, ho9, hb9, hn9⟩
  have hb09 : Below w.heap.size w w9 := hb08.trans (hb9.mono hb08.size)
  rw [Psha.sha_length] at ho9
  obtain ⟨g9, c9, rfl, hc9, _⟩ := ho9.head (by omega)
  have hr9 := rdB_of_rd ho9.rd_of
  have HO59 := Shut.mk (HO58.out.below hb9 (fun g hg => HO58.out.block_lt hg))
  have HE := Shut.mk (equal_calls _ _ 32 c5 32 c9 (Psha.sha (L.take m)) (Psha.sha (L.take m)) _ (rdB_of_rd HO59.out.rd_of) hr9 (Psha.sha_length _) (Psha.sha_length _))
  clear ho9 hn9 hb9 hb08 hr9
  go_wp2_with fail
  refine HE.out.mono ?_
  rintro e w' ⟨rfl, rfl⟩
  rw [beq_self_eq_true]
  go_wp2
  go_ret
  exact ⟨rfl, hb09⟩
end Go.Proofs.YtbihdfpphekehaaDoor
