/- Walk: digest.Sum256. -/
import Derived.Test.YtmlfeljhojmbbaaGreatDoorDig
import Derived.Test.YtmlfeljhojmbbaaGreatDoorRef5c
import Derived.Test.YtmlfeljhojmbbaaGreatDoorMake
import Derived.Deep.RegionWith
namespace Go.Proofs.YtmlfeljhojmbbaaGreatDoor
open Go.RowKit
set_option linter.unusedSimpArgs false
set_option linter.unusedVariables false
set_option maxRecDepth 100000

theorem Own.rd_of {w : World} {e size n g cap : Nat} {xs : List Value} (h : Own w e size (.slice (some ⟨g, 0, none⟩) n cap) n xs) : Rd w (some ⟨g, 0, none⟩) xs := by
  obtain ⟨A7, c7, e7, hr7, _⟩ := h.form
  injection e7 with e7
  subst e7
  exact hr7
theorem Psha.tail_eq (n : Nat) : Psha.tail n = 0x80 :: List.replicate (Psha.zs n) 0 ++ (Psha.lens n).take (8 - 0) := by simp [Psha.tail, Psha.zs, Psha.lens]
theorem rd_eight {w : World} {g : Nat} (s : Psha.St) (h : Rd w (some ⟨g, 0, none⟩) (wds s.list)) :
    w.cell? ⟨g, 0, none⟩ = some (.int .u32 (s.a.toNat : Int)) ∧ w.cell? ⟨g, 1, none⟩ = some (.int .u32 (s.b.toNat : Int)) ∧ w.cell? ⟨g, 2, none⟩ = some (.int .u32 (s.c.toNat : Int)) ∧ w.cell? ⟨g, 3, none⟩ = some (.int .u32 (s.d.toNat : Int)) ∧
    w.cell? ⟨g, 4, none⟩ = some (.int .u32 (s.e.toNat : Int)) ∧ w.cell? ⟨g, 5, none⟩ = some (.int .u32 (s.f.toNat : Int)) ∧ w.cell? ⟨g, 6, none⟩ = some (.int .u32 (s.g.toNat : Int)) ∧ w.cell? ⟨g, 7, none⟩ = some (.int .u32 (s.h.toNat : Int)) :=
  ⟨own_old h rfl, own_old h rfl, own_old h rfl, own_old h rfl, own_old h rfl, own_old h rfl, own_old h rfl, own_old h rfl⟩
theorem be8' (n k : Nat) : ((n : Int) * (8 : Int)) / (2 : Int) ^ k % (256 : Int) = ((Psha.be k (8 * n)).toNat : Int) := by rw [Int.mul_comm (n : Int) 8, be8]
theorem blk_eight {w : World} {g t : Nat} (s : Psha.St) (h : Blk w g t (wds s.list).toArray) :
    w.cell? ⟨g, 0, none⟩ = some (.int .u32 (s.a.toNat : Int)) ∧ w.cell? ⟨g, 1, none⟩ = some (.int .u32 (s.b.toNat : Int)) ∧ w.cell? ⟨g, 2, none⟩ = some (.int .u32 (s.c.toNat : Int)) ∧ w.cell? ⟨g, 3, none⟩ = some (.int .u32 (s.d.toNat : Int)) ∧
    w.cell? ⟨g, 4, none⟩ = some (.int .u32 (s.e.toNat : Int)) ∧ w.cell? ⟨g, 5, none⟩ = some (.int .u32 (s.f.toNat : Int)) ∧ w.cell? ⟨g, 6, none⟩ = some (.int .u32 (s.g.toNat : Int)) ∧ w.cell? ⟨g, 7, none⟩ = some (.int .u32 (s.h.toNat : Int)) :=
  ⟨h.cell 0, h.cell 1, h.cell 2, h.cell 3, h.cell 4, h.cell 5, h.cell 6, h.cell 7⟩
theorem free_eight {w : World} {g t : Nat} {cs : Array Value} (h : Blk w g t cs) :
    w.frozen? ⟨g, 0, none⟩ = false ∧ w.frozen? ⟨g, 1, none⟩ = false ∧ w.frozen? ⟨g, 2, none⟩ = false ∧ w.frozen? ⟨g, 3, none⟩ = false ∧ w.frozen? ⟨g, 4, none⟩ = false ∧ w.frozen? ⟨g, 5, none⟩ = false ∧ w.frozen? ⟨g, 6, none⟩ = false ∧ w.frozen? ⟨g, 7, none⟩ = false :=
  ⟨h.free 0, h.free 1, h.free 2, h.free 3, h.free 4, h.free 5, h.free 6, h.free 7⟩
theorem run_index8 {P : Program} {t e : TypeId} {i : TypeInfo} (ht : P.underlying t = some (.array 8 e)) (hi : P.info? e = some i) (h1 : i.size = 1) (he : ∀ w : World, (isAgg e).run P w = .ok false w) (W : List (BitVec 32)) (hW : W.length = 8) (k : Nat) (hk : k < 8) (w : World) :
    (Instr.index t (.agg (wds W).toArray) (.int .i64 (k : Int))).run P w = .ok (.int .u32 ((W.getD k 0).toNat : Int)) w := by
  have hc : (wds W).toArray[k]? = some (.int .u32 ((W.getD k 0).toNat : Int)) := by rw [List.getElem?_toArray]; exact wds_get W k (by omega)
  have hc' : (wds W)[k]? = some (.int .u32 ((W.getD k 0).toNat : Int)) := wds_get W k (by omega)
  have h8 : (k : Int) < 8 := by omega
  simp [Instr.index, run_underlying ht, asIntOf, h8, hk, sizeOf, typeInfo, hi, h1, part, he, hc, hc']
theorem Own.far {w : World} {e size n g cap : Nat} {xs : List Value} (h : Own w e size (.slice (some ⟨g, 0, none⟩) n cap) n xs) {p : Addr} {u : Value} (hne : g ≠ p.block) : Own (w.setCell p u) e size (.slice (some ⟨g, 0, none⟩) n cap) n xs :=
  h.keep fun g' hg => by cases hg; exact Below.heap_setCell w p u g hne
set_option maxRecDepth 100000 in
set_option maxHeartbeats 1000000 in
theorem dsum_calls (A : Option Addr) (cap n : Nat) (b : List UInt8) (w : World) (hr : RdB w A b) (hn : b.length = n) (hm : n ≤ reach)
    (hk : Rd w (some ⟨1, 0, none⟩) (wds Psha.ks)) (hbg : Rd w (some ⟨0, 0, none⟩) (wds Psha.iv.list)) :
    Calls Tryz.prog 88 #[.slice A n cap] w (NewB w (Psha.sha b)) := by
  unfold reach at hm
  obtain ⟨i0, hi, hz0, hz1, hz2⟩ := info_parts info_u8
  have HN := Shut.mk hn
  clear hn
  have HR := Shut.mk hr
  have HGK := Shut.mk hk
  have HGB := Shut.mk hbg
  clear hr hk hbg
  have i1 : ((n : Int) % 64) ≤ 119 := by omega
  go_enter Tryz.func88, Tryz.ntmps88
  have hz := Psha.zs_le n
  go_wp2_with (
    refine wpList_make_cap w rfl _ _ _ rfl 5 i0 (.int .u8 0) Tryz.underlying27 hi hz0 hz1 rfl .i64 .i64 (Psha.zs n + 1) 128 (by show Value.int _ _ = _; congr 1; simp [Psha.zs]; omega) rfl (by omega) (by omega) (by omega) ?_;
    obtain ⟨W1, hW1⟩ : ∃ W, W = w.alloc (.cells (madeCells #[.int .u8 0] 128) 5) := ⟨_, rfl⟩;
    have ho1 : Own W1 5 1 (.slice (some ⟨w.heap.size, 0, none⟩) (Psha.zs n + 1) 128) (Psha.zs n + 1) (bys (List.replicate (Psha.zs n + 1) 0)) := by (rw [hW1]; exact own_made w _ _ _ (by omega) (by simp [maxLen]));
    have hb1 : Below w.heap.size w W1 := by (rw [hW1]; exact (Below.refl _ w).alloc (Nat.le_refl _) _);
    rw [← hW1];
    clear hW1;
    have hc1 := ho1.cell 0 (u := .int .u8 0) (by simp [bys]);
    have hf1 := ho1.free 0)
  have ho2 : Own (W1.setCell ⟨w.heap.size, 0, none⟩ (.int .u8 128)) 5 1 (.slice (some ⟨w.heap.size, 0, none⟩) (Psha.zs n + 1) 128) (Psha.zs n + 1 + 0) (bys (0x80 :: List.replicate (Psha.zs n) 0 ++ (Psha.lens n).take 0)) := (ho1.set 0 (.int .u8 128)).cast rfl (by simp [bys, List.replicate_succ])
  have hb2 := hb1.setCell (p := ⟨w.heap.size, 0, none⟩) (Nat.le_refl _) (.int .u8 128)
  generalize W1.setCell ⟨w.heap.size, 0, none⟩ (.int .u8 128) = W2 at ho2 hb2 ⊢
  clear ho1 hb1 hc1 hf1
  go_loopw [3, 4] (fun v i wr => ∃ m : Nat, m ≤ 8 ∧ i = .int .i64 ((8 : Int) * (m : Int) - 8) ∧ Own wr 5 1 v (Psha.zs n + 1 + (8 - m)) (bys (0x80 :: List.replicate (Psha.zs n) 0 ++ (Psha.lens n).take (8 - m))) ∧ Below w.heap.size w wr ∧ Shut (∀ g, v.ownBlock = some g → w.heap.size ≤ g)) (fun _ i _ => (intOf i + 8).toNat)
  case atStart => exact ⟨8, Nat.le_refl _, rfl, ho2, hb2, ⟨fun g hg => by cases hg; exact Nat.le_refl _⟩⟩
  case round =>
    clear ho2 hb2
    obtain ⟨m, hm8, rfl, ho, hbr, hnw⟩ := hrel
    obtain ⟨g5, c5, rfl, hc5, hc5m⟩ := ho.head (by omega)
    unfold maxLen at hc5m
    by_cases hm0 : m = 0
    · subst hm0
      rw [show (8 : Int) * ((0 : Nat) : Int) - 8 = -8 from rfl]
      have ho' : Own wr 5 1 (.slice (some ⟨g5, 0, none⟩) (Psha.zs n + 1 + 8) c5) (Psha.zs n + 1 + 8) (bys (Psha.tail n)) := ho.cast rfl (by rw [Psha.tail_eq])
      have HRB := Shut.mk (rd_of_rdB (HR.out.keep (hbr.alloc hbr.size (.cells #[] 5))))
      have hg5 : w.heap.size ≤ g5 := hnw.out g5 rfl
      have ho0 := own_empty wr 5 1
      have hot := ho'.alloc (.cells #[] 5)
      have hgl := ho'.block_lt (g := g5) rfl
      have HL := Shut.mk (bys_length b)
      have HTL := Shut.mk (show (bys (Psha.tail n)).length = (Psha.zs n + 1 + 8) * 1 from hot.len)
      clear ho ho'
      go_wp2_with (first
        | (at_builtin; refine wpList_append _ rfl (.tmp 33) (.tmp 34) _ rfl 5 i0 _ 1 1 Tryz.underlying27 hi hz0 hz1 hz2 rfl (by decide) _ _ _ rfl ho0 _ n cap _ rfl (by rw [HL.out, HN.out, Nat.mul_one]) HRB.out (bys_one b) (by simp only [maxLen]; omega) (by omega) ?_; intro v1 w1 hap1)
        | (
          at_builtin
          refine wpList_append _ rfl (.tmp 35) (.tmp 36) _ rfl 5 i0 _ 1 1 Tryz.underlying27 hi hz0 hz1 hz2 rfl (by decide) _ _ _ rfl hap1.own _ (Psha.zs n + 1 + 8) c5 _ rfl HTL.out (Own.rd_of (hot.other (r := wr.heap.size) hap1.grown (fun g hg => by cases hg; exact Nat.ne_of_lt hgl))) (bys_one _) (by simp only [maxLen]; omega) (by omega) ?_
          intro v2 w2 hap2
          have hb4 : Below w.heap.size w w2 := ((hbr.alloc hbr.size (.cells #[] 5)).grown hap1.grown (by have := hbr.size; simp; omega) (fun g hg => by cases hg; exact hbr.size)).grown hap2.grown (by have := hbr.size; have := hap1.grown.size; simp at this; omega) (new_append (v := .slice (some ⟨wr.heap.size, 0, none⟩) 0 0) (w1 := wr.alloc (.cells #[] 5)) (by have := hbr.size; simp; omega) (fun g hg => by cases hg; exact hbr.size) hap1.lies)
          obtain ⟨b0, b1, b2, b3, b4, b5, b6, b7⟩ := rd_eight Psha.iv (HGB.out.keep hb4)))
      obtain ⟨F, hF⟩ : ∃ F, F = Psha.full b := ⟨_, rfl⟩
      obtain ⟨L, hL⟩ : ∃ L, L = n + (Psha.zs n + 1 + 8) := ⟨_, rfl⟩
      have ho5 : Own w2 5 1 v2 L (bys F) := hap2.own.cast (by rw [hL]; omega) (by rw [hF, Psha.full, HN.out, bys_append]; rfl)
      have hFl : F.length = L := by rw [hF, Psha.full_length, HN.out, hL]; omega
      have hF64 : L = 64 * (L / 64) := by rw [← hFl, hF]; exact Psha.full_blocks b
      have hLm : L ≤ 140737488351312 := by omega
      have hLp : 0 < L := by omega
      have HF := Shut.mk hF
      have HFL := Shut.mk hFl
      obtain ⟨M, hM⟩ : ∃ M, M = L / 64 := ⟨_, rfl⟩
      have HM := Shut.mk (show L = 64 * M by rw [hM]; exact hF64)
      clear hF hFl hF64 hM
      obtain ⟨gF, cF, rfl, hcF, hcFm⟩ := ho5.head hLp
      have hbh : Blk (w2.alloc (.cells (wds Psha.iv.list).toArray 138)) w2.heap.size 138 (wds (Psha.blocks Psha.iv F 0).list).toArray := Blk.new w2 _ _
      have ho6 := ho5.alloc (.cells (wds Psha.iv.list).toArray 138)
      have hb6 := hb4.alloc hb4.size (.cells (wds Psha.iv.list).toArray 138)
      have hgF := ho5.block_lt (g := gF) rfl
      have hgh := hb4.size
      generalize w2.heap.size = gh at hbh hgF hgh ⊢
      clear hap1 hap2 ho5 hot ho0 hb4 hL hc5 hc5m b0 b1 b2 b3 b4 b5 b6 b7
      go_loopw [5] (fun v wr => ∃ (q : Nat) (ad : Addr) (c : Nat), q ≤ M ∧ v = .slice (some ad) (L - 64 * q) c ∧ (q < M → ad = ⟨gF, 64 * q, none⟩ ∧ c = cF - 64 * q) ∧ Blk wr gh 138 (wds (Psha.blocks Psha.iv F q).list).toArray ∧ Own wr 5 1 (.slice (some ⟨gF, 0, none⟩) L cF) L (bys F) ∧ Below w.heap.size w wr) (fun v _ => lenOf v)
      case atStart => exact ⟨0, ⟨gF, 0, none⟩, cF, Nat.zero_le _, rfl, fun _ => ⟨rfl, rfl⟩, hbh, ho6, hb6⟩
      case round =>
        clear hbh ho6 hb6 hbr hnw
        rename_i wp
        obtain ⟨q, ad, c, hq, rfl, hadc, hbh, hof, hbr⟩ := hrel
        by_cases hlt : q < M
        · obtain ⟨rfl, rfl⟩ := hadc hlt
          have h64 : 64 * q + 64 ≤ L := by rw [HM.out]; omega
          have hc6 : 64 * q + 64 ≤ cF := by omega
          have hrb : RdB wr (some ⟨gF, 64 * q, none⟩) ((F.drop (64 * q)).take 64) := by
            intro j hj
            have hj2 : j < 64 := by rw [List.length_take] at hj; omega
            have hj3 : 64 * q + j < F.length := by rw [HFL.out]; omega
            refine ⟨_, rfl, ?_⟩
            have hcell := hof.cell (64 * q + j) (bys_get F (64 * q + j) hj3)
            have e1 : ((F.drop (64 * q)).take 64).getD j 0 = F.getD (64 * q + j) 0 := by
              simp [List.getD_eq_getElem?_getD, List.getElem?_take, hj2, List.getElem?_drop]
            rw [e1, show (⟨gF, 64 * q, none⟩ : Addr).add j = ⟨gF, 64 * q + j, none⟩ from by unfold Addr.add; split <;> simp_all]
            exact hcell
          have hrl : ((F.drop (64 * q)).take 64).length = 64 := by rw [List.length_take, List.length_drop, HFL.out]; omega
          have HRL := Shut.mk hrl
          clear hrl
          have HS := Shut.mk (show Psha.blocks Psha.iv F (q + 1) = Psha.block (Psha.blocks Psha.iv F q) ((F.drop (64 * q)).take 64) from rfl)
          generalize (F.drop (64 * q)).take 64 = blk at HS HRL hrb
          generalize Psha.blocks Psha.iv F q = st at HS hbh
          have hc := dblock_calls ⟨gF, 64 * q, none⟩ (cF - 64 * q) blk st wr.drew hrb HRL.out (by omega) (by unfold maxLen at hcFm ⊢; omega) (HGK.out.keep (below_drewN hbr 1))
          generalize Psha.block st blk = st' at hc HS
          simp only [wds, Psha.St.list, List.map_cons, List.map_nil] at hc
          have HC := Shut.mk hc
          clear hc
          clear hrb
          have HBL := Shut.mk hbh
          obtain ⟨b0, b1, b2, b3, b4, b5, b6, b7⟩ := blk_eight st hbh
          clear hbh
          go_wp2_with fail
          go_region_with ((go_at_call 105; refine HC.out.mono ?_; rintro e w' ⟨rfl, hbl⟩; have HBL' := Shut.mk (HBL.out.drew.below hbl HBL.out.lt); obtain ⟨c0, c1, c2, c3, c4, c5, c6, c7⟩ := blk_eight st HBL'.out; obtain ⟨f0, f1, f2, f3, f4, f5, f6, f7⟩ := free_eight HBL'.out))
          go_wp2_with fail
          all_goals
            have hgFl := hof.block_lt (g := gF) rfl
            have hne : gF ≠ gh := by omega
            have hof' := ((((((((hof.drew.below hbl (fun g hg => by cases hg; exact hgFl)).far (p := ⟨gh, 0, none⟩) (u := .int .u32 (st'.a.toNat : Int)) hne).far (p := ⟨gh, 1, none⟩) (u := .int .u32 (st'.b.toNat : Int)) hne).far (p := ⟨gh, 2, none⟩) (u := .int .u32 (st'.c.toNat : Int)) hne).far (p := ⟨gh, 3, none⟩) (u := .int .u32 (st'.d.toNat : Int)) hne).far (p := ⟨gh, 4, none⟩) (u := .int .u32 (st'.e.toNat : Int)) hne).far (p := ⟨gh, 5, none⟩) (u := .int .u32 (st'.f.toNat : Int)) hne).far (p := ⟨gh, 6, none⟩) (u := .int .u32 (st'.g.toNat : Int)) hne).far (p := ⟨gh, 7, none⟩) (u := .int .u32 (st'.h.toNat : Int)) hne
            have hbr' := hbr.drew.trans (hbl.mono hbr.size)
            have hB := ((((((((HBL'.out.set_ 0 (.int .u32 (st'.a.toNat : Int))).set_ 1 (.int .u32 (st'.b.toNat : Int))).set_ 2 (.int .u32 (st'.c.toNat : Int))).set_ 3 (.int .u32 (st'.d.toNat : Int))).set_ 4 (.int .u32 (st'.e.toNat : Int))).set_ 5 (.int .u32 (st'.f.toNat : Int))).set_ 6 (.int .u32 (st'.g.toNat : Int))).set_ 7 (.int .u32 (st'.h.toNat : Int)))
            rw [eight _ rfl] at hB
            have hW := ((((((((hbr'.setCell (p := ⟨gh, 0, none⟩) hgh (.int .u32 (st'.a.toNat : Int))).setCell (p := ⟨gh, 1, none⟩) hgh (.int .u32 (st'.b.toNat : Int))).setCell (p := ⟨gh, 2, none⟩) hgh (.int .u32 (st'.c.toNat : Int))).setCell (p := ⟨gh, 3, none⟩) hgh (.int .u32 (st'.d.toNat : Int))).setCell (p := ⟨gh, 4, none⟩) hgh (.int .u32 (st'.e.toNat : Int))).setCell (p := ⟨gh, 5, none⟩) hgh (.int .u32 (st'.f.toNat : Int))).setCell (p := ⟨gh, 6, none⟩) hgh (.int .u32 (st'.g.toNat : Int))).setCell (p := ⟨gh, 7, none⟩) hgh (.int .u32 (st'.h.toNat : Int)))
            refine ⟨⟨q + 1, if cF - 64 * q = 64 then ⟨gF, 64 * q, none⟩ else ⟨gF, 64 * q + 64, none⟩, cF - 64 * q - 64, by omega, ?_, ?_, ?_, hof', hW⟩, ?_⟩
            · rw [show L - 64 * q - 64 = L - 64 * (q + 1) from by omega]
              split <;> rfl
            · intro h
              have h5 : 64 * (q + 1) + 64 ≤ L := by rw [HM.out]; omega
              rw [if_neg (by omega)]
              exact ⟨rfl, by omega⟩
            · rw [HS.out]
              exact hB
            · simp [lenOf]; omega
        · obtain rfl : q = M := by omega
          have hL0 : L - 64 * q = 0 := by rw [HM.out]; omega
          rw [hL0]
          generalize hst : Psha.blocks Psha.iv F q = st at hbh
          have HST := Shut.mk hst
          clear hst hof
          obtain ⟨b0, b1, b2, b3, b4, b5, b6, b7⟩ := blk_eight st hbh
          clear hbh
          go_wp2_with fail
          have hsl : st.list.length = 8 := rfl
          have hag : Value.agg #[Value.int IntKind.u32 (st.a.toNat : Int), Value.int IntKind.u32 (st.b.toNat : Int), Value.int IntKind.u32 (st.c.toNat : Int), Value.int IntKind.u32 (st.d.toNat : Int), Value.int IntKind.u32 (st.e.toNat : Int), Value.int IntKind.u32 (st.f.toNat : Int), Value.int IntKind.u32 (st.g.toNat : Int), Value.int IntKind.u32 (st.h.toNat : Int)] = .agg (wds st.list).toArray := rfl
          rw [hag]
          go_loopw [7, 49] (fun v i wr => ∃ k : Nat, k ≤ 8 ∧ i = .int .i64 k ∧ Own wr 5 1 v (4 * k) (bys ((st.list.take k).flatMap Psha.wbytes)) ∧ Below w.heap.size w wr ∧ Shut (∀ g, v.ownBlock = some g → w.heap.size ≤ g)) (fun _ i _ => 8 - (intOf i).toNat)
          case atStart => exact ⟨0, Nat.zero_le _, rfl, Own.nil _ _ _, hbr, ⟨fun g hg => by simp [Value.ownBlock] at hg⟩⟩
          case round =>
            clear hbr
            rename_i wz
            obtain ⟨k, hk, rfl, hoo, hbr, hnw⟩ := hrel
            by_cases hlt : k < 8
            · obtain ⟨iw, hiw, hw0, hw1, hw2⟩ := info_parts info_u32
              have hix := run_index8 Tryz.underlying138 hiw hw1 (fun _ => by kernel_rfl) st.list hsl k hlt
              have HX := Shut.mk (Psha.flat_snoc st.list k (by omega))
              generalize st.list.getD k 0 = x at hix HX
              have HWB := Shut.mk (wbytes_spelt x)
              clear hiw hw0 hw1 hw2
              go_wp2_with (at_builtin; refine wpList_append _ rfl (.tmp 52) (.tmp 64) _ rfl 5 i0 _ 1 1 Tryz.underlying27 hi hz0 hz1 hz2 rfl (by decide) _ _ _ rfl (hoo.alloc _) _ 4 4 _ rfl (by rfl) (rd_new wr _ 5) (by simp [Value.oneCell']) (by simp only [maxLen]; omega) (by omega) ?_; intro v9 w9 hap9)
              obtain ⟨g9, c9, rfl, _, _⟩ := hap9.own.head (by omega)
              go_roundw
              case rel =>
                refine ⟨k + 1, by omega, by go_num, hap9.own.cast (by omega) ?_, below_app hbr hbr.size (by rfl) (by rfl) (by rfl) (by rfl) hap9.grown hnw.out, ⟨fun g hg => ?_⟩⟩
                · rw [HX.out, bys_append]
                  congr 1
                  have e9 := congrArg (fun l => l.map (Value.int .u8)) HWB.out
                  rw [List.map_map] at e9
                  exact e9
                · rcases hap9.lies with h | h
                  · exact hnw.out g (h ▸ hg)
                  · rw [h] at hg
                    cases hg
                    have := hbr.size
                    simp
                    omega
              case measure => simp [intOf]; omega
            · obtain rfl : k = 8 := by omega
              go_wp2
              go_ret
              refine ⟨_, rfl, hoo.cast (Psha.sha_length b).symm ?_, hbr, fun g hg => hnw.out g hg⟩
              rw [List.take_of_length_le (by omega), ← HST.out, Psha.sha, ← HF.out, HFL.out, show L / 64 = q from by rw [HM.out]; omega]
    · obtain ⟨p, rfl⟩ : ∃ p, m = p + 1 := ⟨m - 1, by omega⟩
      have e1 : (8 : Int) * ((p + 1 : Nat) : Int) - 8 = 8 * (p : Int) := by omega
      rw [e1]
      go_wp2_with (at_builtin; refine wpList_append _ rfl (.tmp 23) (.tmp 31) _ rfl 5 i0 _ 1 1 Tryz.underlying27 hi hz0 hz1 hz2 rfl (by decide) _ _ _ rfl (ho.alloc _) _ 1 1 _ rfl (by rfl) (rd_new wr _ 5) (by simp [Value.oneCell']) (by simp only [maxLen]; omega) (by omega) ?_; intro v6 w6 hap6)
      obtain ⟨g6, c6, rfl, _, _⟩ := hap6.own.head (by omega)
      go_roundw
      case rel =>
        have hbr' := hbr.alloc hbr.size (.cells #[.int .u8 ((n : Int) * 8 / (2 : Int) ^ (8 * p) % (256 : Int))] 5)
        refine ⟨p, by omega, rfl, hap6.own.cast (by omega) ?_, hbr'.grown hap6.grown hbr'.size hnw.out, ⟨new_append hbr'.size hnw.out hap6.lies⟩⟩
        rw [show 8 - p = (8 - (p + 1)) + 1 from by omega, Psha.lens_take n (8 - (p + 1)) (by omega), ← List.append_assoc, bys_append, show 56 - 8 * (8 - (p + 1)) = 8 * p from by omega, Int.mul_comm (n : Int) 8, be8]
        simp only [bys_append]
        rfl
      case measure => first | (simp [intOf]; done) | (simp [intOf]; omega)
end Go.Proofs.YtmlfeljhojmbbaaGreatDoor
