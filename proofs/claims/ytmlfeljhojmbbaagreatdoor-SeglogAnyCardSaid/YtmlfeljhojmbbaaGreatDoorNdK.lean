/- Walk: the document's log: unframe. Walk: the document's log: numbers. Walk: the document's log: cut. Walk: the document's log: scan (printed by wip/genrscan.py). Walk: the document's Open of any disk (printed by wip/genrl7.py). -/
import Derived.Test.YtmlfeljhojmbbaaGreatDoorNdM
import Derived.Laws.BytesArg
namespace Go.Proofs.YtmlfeljhojmbbaaGreatDoor
open Go.RowKit Go.Maps Go.Sort
set_option linter.unusedSimpArgs false
set_option linter.unusedVariables false
set_option maxRecDepth 100000

theorem add_norm (g o k : Nat) : (⟨g, o, none⟩ : Addr).add k = ⟨g, o + k, none⟩ := by
  unfold Addr.add
  split
  · simp [*]
  · rfl
theorem pv_num4 (b : List UInt8) : pv b 0 4 = num4 b := by
  simp only [pv, num4, Nat.mul_zero, Nat.zero_add]
  omega
theorem below_drew1 {B : Nat} {a w : World} (h : Below B a w) : Below B a w.drew := h.drew
/-- string(b) of a slice of bytes -/
theorem conv_bytes7 (W : World) (g o n c : Nat) (l : List UInt8) (hr : RdB W (some ⟨g, o, none⟩) l) (hn : l.length = n) : (convert 27 9 (.slice (some ⟨g, o, none⟩) n c)).run Tryz.prog W = .ok (.string ⟨l.toArray⟩) W := by
  have h := run_convert_bytes_arg (P := Tryz.prog) W 27 5 Tryz.underlying27 Tryz.underlying5 g o n c (l.map fun x => (x.toNat : Int)) (by rw [List.length_map, hn]) (fun i hi => by
    obtain ⟨ad, e, hc⟩ := hr i (by omega)
    cases e
    rw [add_norm] at hc
    rw [hc, List.getD_eq_getElem?_getD, List.getD_eq_getElem?_getD, List.getElem?_map, List.getElem?_eq_getElem (by omega)]
    rfl) 9 Tryz.underlying9
  rw [h]
  congr 2
  unfold strOfNums
  rw [List.map_map]
  congr 2
  conv => rhs; rw [← List.map_id l]
  refine List.map_congr_left fun x _ => ?_
  simp
set_option maxHeartbeats 4000000 in
theorem unframe_some (g o c N : Nat) (b : List UInt8) (w : World) (hr : RdB w (some ⟨g, o, none⟩) b) (hN : b.length = N) (hc : N ≤ c) (hm : N ≤ 1048576) (h41 : 41 ≤ N) :
    Calls Tryz.prog 100 #[.slice (some ⟨g, o, none⟩) N c] w fun e w' => Below w.heap.size w w' ∧ ((fstL b = none ∧ e = .returned (.slice none 0 0)) ∨
      ∃ r g' c', fstL b = some r ∧ e = .returned (.slice (some ⟨g', 0, none⟩) r.length c') ∧ Own w' 5 1 (.slice (some ⟨g', 0, none⟩) r.length c') r.length (bys r) ∧ w.heap.size ≤ g') := by
  obtain ⟨i0, hi, hz0, hz1, hz2⟩ := info_parts info_u8
  have HR := Shut.mk hr
  have HN := Shut.mk hN
  have h4c : (4 : Int) ≤ (c : Int) := by omega
  obtain ⟨NV, hNV⟩ : ∃ NV, NV = num4 b := ⟨_, rfl⟩
  have HNV : Shut (pv b 0 4 = NV) := ⟨by rw [pv_num4, hNV]⟩
  have HNV2 := Shut.mk hNV
  have hNVb : NV < 4294967296 := by
    rw [hNV, ← pv_num4]
    exact pv_lt b 0 4
  clear hr hN hNV
  go_enter Tryz.func100, Tryz.ntmps100
  go_wp2_with fail
  go_loopw [3, 14] (fun u i wr => ∃ q : Nat, q ≤ 4 ∧ i = .int .i64 q ∧ u = .int .i64 ((pv b 0 q : Nat) : Int) ∧ wr = w) (fun _ i _ => 4 - (intOf i).toNat)
  case atStart => exact ⟨0, by omega, rfl, rfl, by trivial⟩
  case round =>
    obtain ⟨q, hq, rfl, rfl, rfl⟩ := hrel
    by_cases hlt : q < 4
    · obtain ⟨ad, e, hc0⟩ := HR.out q (by rw [HN.out]; omega)
      cases e
      rw [add_norm] at hc0
      obtain ⟨Y, hY⟩ : ∃ Y, Y = (b.getD q 0).toNat := ⟨_, rfl⟩
      obtain ⟨P, hP⟩ : ∃ P, P = pv b 0 q := ⟨_, rfl⟩
      have hYb : Y < 256 := by rw [hY]; exact (b.getD q 0).toNat_lt
      have hPb : P < 16777216 := by
        rw [hP]
        refine Nat.lt_of_lt_of_le (pv_lt b 0 q) ?_
        have : 256 ^ q ≤ 256 ^ 3 := Nat.pow_le_pow_right (by omega) (by omega)
        omega
      have HNX : Shut (pv b 0 (q + 1) = P * 256 + Y) := ⟨by rw [hP, hY]; simp [pv]⟩
      have hqI : (q : Int) < 4 := by omega
      rw [← hY] at hc0
      rw [← hP]
      clear hY hP
      go_wp2_with fail
      go_roundw
      case rel => exact ⟨q + 1, by omega, by go_num, by rw [HNX.out]; go_num, by trivial⟩
      case measure => first | (simp [intOf]; done) | (simp [intOf]; omega)
    · obtain rfl : q = 4 := by omega
      rw [HNV.out]
      by_cases hbad : NV < 1 ∨ 4000 < NV ∨ N < 40 + NV
      · have HF : Shut (fstL b = none) := ⟨by unfold fstL; rw [if_neg (by rw [HN.out]; omega), if_pos (by rw [← HNV2.out, HN.out]; omega)]⟩
        by_cases hb1 : NV < 1
        · have hI : (NV : Int) < 1 := by omega
          clear hbad
          go_wp2_with fail
          go_ret
          exact ⟨Below.refl _ _, .inl ⟨HF.out, rfl⟩⟩
        · by_cases hb2 : 4000 < NV
          · have hI : (NV : Int) > 4000 := by omega
            clear hbad
            go_wp2_with fail
            go_ret
            exact ⟨Below.refl _ _, .inl ⟨HF.out, rfl⟩⟩
          · have hI : (N : Int) < 40 + (NV : Int) := by omega
            clear hbad
            go_wp2_with fail
            go_ret
            exact ⟨Below.refl _ _, .inl ⟨HF.out, rfl⟩⟩
      · have hg1 : 1 ≤ NV := by omega
        have hg2 : NV ≤ 4000 := by omega
        have hg3 : 40 + NV ≤ N := by omega
        have hg4 : 40 + (NV : Int) ≤ (N : Int) := by omega
        have hg5 : 40 + (NV : Int) ≤ (c : Int) := by omega
        have hc40 : ¬ c = 40 := by omega
        clear hbad
        have HL : Shut (((b.drop 40).take NV).length = NV) := ⟨by rw [List.length_take, List.length_drop, HN.out]; omega⟩
        have HP : Shut (RdB wr (some ⟨g, o + 40, none⟩) ((b.drop 40).take NV)) := ⟨by rw [← add_norm]; exact rdB_piece HR.out 40 NV⟩
        have HT := Shut.mk (RdB.take HR.out (40 + NV))
        have HTL : Shut ((b.take (40 + NV)).length = 40 + NV) := ⟨by rw [List.length_take, HN.out]; omega⟩
        have HFE : Shut (fstL b = if frm ((b.drop 40).take NV) = b.take (40 + NV) then some ((b.drop 40).take NV) else none) := ⟨by
          unfold fstL
          rw [if_neg (by rw [HN.out]; omega), ← HNV2.out, if_neg (by rw [HN.out]; omega)]⟩
        generalize (b.drop 40).take NV = r at HL HP HFE
        generalize b.take (40 + NV) = bt at HT HTL HFE
        go_wp2_with fail
        refine (rframe_calls (some ⟨g, o + 40, none⟩) (c - 40) NV r wr HP.out HL.out hg1 hg2).mono ?_
        rintro e w2 ⟨v2, rfl, ho2, hb2, hn2⟩
        obtain ⟨g2, c2, rfl, hac2, _⟩ := ho2.head (by omega)
        have HB2 := Shut.mk hb2
        have HFB := Shut.mk (rdb_own _ ho2)
        have HFL := Shut.mk (show (frm r).length = 40 + NV by rw [frm_length, HL.out])
        have HT2 := Shut.mk (HT.out.keep hb2)
        have HP2 := Shut.mk (HP.out.keep hb2)
        have hcv1 : (convert 27 9 (.slice (some ⟨g2, 0, none⟩) (40 + NV) c2)).run Tryz.prog w2.drew = .ok (.string ⟨(frm r).toArray⟩) w2.drew := conv_bytes7 w2.drew g2 0 (40 + NV) c2 (frm r) (HFB.out.keep ((Below.refl _ w2).drew)) HFL.out
        have hcv2 : (convert 27 9 (.slice (some ⟨g, o, none⟩) (40 + NV) c)).run Tryz.prog w2.drew = .ok (.string ⟨bt.toArray⟩) w2.drew := conv_bytes7 w2.drew g o (40 + NV) c bt (HT2.out.keep ((Below.refl _ w2).drew)) HTL.out
        clear ho2 hb2
        by_cases hE : frm r = bt
        · have hE' : (frm r == bt) = true := by rw [beq_iff_eq]; exact hE
          have HF := Shut.mk (HFE.out.trans (if_pos hE))
          clear hE
          go_wp2_with fail
          go_region
          have hb9 : Below w2.heap.size w2 (w2.drew.alloc (.cells #[] 5)) := ((Below.refl _ w2).drew).alloc (Nat.le_refl _) _
          have HB9 := Shut.mk hb9
          have hrd : Rd (w2.drew.alloc (.cells #[] 5)) (some ⟨g, o + 40, none⟩) (bys r) := rd_of_rdB (HP2.out.keep hb9)
          have hlb : (bys r).length = (40 + NV - 40) * 1 := by rw [bys_length, HL.out]; omega
          clear hcv1 hcv2 hb9
          go_wp2_with (at_builtin; refine wpList_append _ rfl _ _ _ rfl 5 i0 _ 1 1 Tryz.underlying27 hi hz0 hz1 hz2 rfl (by decide) _ _ _ rfl (own_empty w2.drew 5 1) _ (40 + NV - 40) (c - 40) _ rfl hlb hrd (bys_one _) (by simp only [maxLen]; omega) (by omega) ?_; intro v6 w6 hap6)
          go_ret
          have ho6 := hap6.own.cast (show 0 + (40 + NV - 40) = NV by omega) (show ([] : List Value) ++ bys r = bys r from rfl)
          obtain ⟨g6, c6, rfl, _⟩ := ho6.head (by omega)
          have hs2 := HB2.out.size
          have hs9 := HB9.out.size
          refine ⟨HB2.out.trans ((HB9.out.grown hap6.grown (by simp) (fun x hx => by cases hx; simp)).mono hs2), .inr ⟨r, g6, c6, HF.out, ?_, ?_, ?_⟩⟩
          · rw [HL.out]
            rfl
          · rw [HL.out]
            exact ho6
          · rcases hap6.lies with h | h
            · cases h
              simp
              omega
            · cases h
              simp
              omega
        · have hE' : (frm r == bt) = false := by rw [beq_eq_false_iff_ne]; exact hE
          have HF := Shut.mk (HFE.out.trans (if_neg hE))
          clear hE
          go_wp2_with fail
          go_region
          go_wp2_with fail
          go_ret
          exact ⟨below_drew1 HB2.out, .inl ⟨HF.out, rfl⟩⟩
end Go.Proofs.YtmlfeljhojmbbaaGreatDoor

namespace Go.Proofs.YtmlfeljhojmbbaaGreatDoor
open Go.RowKit Go.Maps Go.Sort
set_option linter.unusedSimpArgs false
set_option linter.unusedVariables false
set_option maxRecDepth 100000

theorem unframe_none (A : Option Addr) (c N : Nat) (w : World) (h41 : N ≤ 40) :
    Calls Tryz.prog 100 #[.slice A N c] w fun e w' => e = .returned (.slice none 0 0) ∧ w = w' := by
  have hI : (N : Int) < 41 := by omega
  go_enter Tryz.func100, Tryz.ntmps100
  go_wp2_with fail
  go_ret
  exact ⟨rfl, rfl⟩
theorem pv_mono (r : List UInt8) (X : Nat) : ∀ (j i : Nat), j ≤ i → pv r X j ≤ pv r X i
  | j, 0, h => by
    obtain rfl : j = 0 := by omega
    exact Nat.le_refl _
  | j, i + 1, h => by
    by_cases hj : j = i + 1
    · rw [hj]
      exact Nat.le_refl _
    · have h1 := pv_mono r X j i (by omega)
      rw [pv]
      omega
theorem vals_take (R : List UInt8) (K q : Nat) (hq : q ≤ K) : ((List.range K).map (val8 R)).take q = (List.range q).map (val8 R) := by
  rw [← List.map_take, List.take_range, Nat.min_eq_left hq]
theorem vals_bad {R : List UInt8} {K q : Nat} (hq : q + 1 ≤ K) (hb : ¬ goodL ((List.range (q + 1)).map (val8 R))) : ¬ goodL ((List.range K).map (val8 R)) := fun hg => hb (by
  have h1 := goodL_take hg (q + 1)
  rwa [vals_take R K (q + 1) hq] at h1)
theorem range_snoc (R : List UInt8) (q : Nat) : (List.range (q + 1)).map (val8 R) = (List.range q).map (val8 R) ++ [val8 R q] := by rw [List.range_succ, List.map_append]; rfl
theorem last_map9 (f : Nat → Nat) (q : Nat) (hl : (List.range q).map f ≠ []) : ((List.range q).map f).getLast hl = f (q - 1) := by
  rw [List.getLast_eq_getElem, List.getElem_map, List.getElem_range, List.length_map, List.length_range]
theorem kb_app2 {w w' : World} {o : Obj} {e size : Nat} {u u' : Value} {n m : Nat} {xs news : List Value} (hap : Appended (w.alloc o) w' e size u u' n m xs news) : Kb w w' u.ownBlock.toList :=
  ((Kb.refl w _).alloc o).trans (Kb.of_grown hap.grown (L := u.ownBlock.toList) (fun r hr => by rw [hr]; simp)) (fun x hx => .inl hx)
set_option maxHeartbeats 4000000 in
theorem rnum_loop (A : Option Addr) (c N K : Nat) (b R : List UInt8) (w : World) (hA : ∃ g o, A = some ⟨g, o, none⟩) (hr : RdB w A b) (hN : b.length = N) (hc : N ≤ c) (hm : N ≤ 1048576) (hf : fstL b = some R) (hR : R.length = 8 * K) (hNK : N = 40 + 8 * K) (h1 : 1 ≤ K) (h2 : K ≤ 500) :
    Calls Tryz.prog 77 #[.slice A N c] w fun e w' => Below w.heap.size w w' ∧ ((¬ goodL (vals R) ∧ e = .returned (.slice none 0 0)) ∨ (goodL (vals R) ∧ ∃ g c', e = .returned (.slice (some ⟨g, 0, none⟩) K c') ∧ Own w' 3 1 (.slice (some ⟨g, 0, none⟩) K c') K (its (vals R)) ∧ w.heap.size ≤ g)) := by
  obtain ⟨i0, hi, hz0, hz1, hz2⟩ := info_parts info_i64b
  have hnil := fun (W : World) (g n c : Nat) => Lib.run_eql_slice_nil (P := Tryz.prog) W 27 5 (some ⟨g, 0, none⟩) n c 0 0 Tryz.underlying27
  obtain ⟨ga, oa, rfl⟩ := hA
  have HVL : Shut (vals R = (List.range K).map (val8 R)) := ⟨by unfold vals; rw [hR, show 8 * K / 8 = K by omega]⟩
  have HUN : Shut (Calls Tryz.prog 100 #[.slice (some ⟨ga, oa, none⟩) N c] w fun e w' => ∃ g c', e = .returned (.slice (some ⟨g, 0, none⟩) (8 * K) c') ∧ Own w' 5 1 (.slice (some ⟨g, 0, none⟩) (8 * K) c') (8 * K) (bys R) ∧ Below w.heap.size w w' ∧ w.heap.size ≤ g) := ⟨by
    refine (unframe_some ga oa c N b w hr hN hc hm (by omega)).mono ?_
    rintro e w' ⟨hb, ⟨h, _⟩ | ⟨r, g', c', h, rfl, ho, hg⟩⟩
    · rw [hf] at h
      cases h
    · rw [hf] at h
      injection h with h
      subst h
      rw [hR] at ho ⊢
      exact ⟨g', c', rfl, ho, hb, hg⟩⟩
  have HRL := Shut.mk hR
  subst hNK
  clear hr hN hf hR
  have hmod : (8 * (K : Int)).tmod 8 = 0 := by rw [Int.tmod_eq_emod_of_nonneg (by omega)]; omega
  go_enter Tryz.func77, Tryz.ntmps77
  go_wp2_with fail
  refine HUN.out.mono ?_
  rintro e w2 ⟨gr, cr, rfl, ho2, hb2, hg2⟩
  have hgr := ho2.block_lt (g := gr) rfl
  have hcr : 8 * K ≤ cr := by
    obtain ⟨A9, c9, e9, _, h9, _⟩ := ho2.form
    cases e9
    exact h9
  have HRB := Shut.mk (rdb_own _ ho2)
  have HB2 := Shut.mk hb2
  clear ho2 hb2
  go_wp2_with fail
  go_loopw [4, 5, 6] (fun u la at_ wr => ∃ (q L AT : Nat), q ≤ K ∧ AT = 8 * q ∧ at_ = .int .i64 (AT : Int) ∧ la = .int .i64 (L : Int) ∧ L ≤ 99999999 ∧ Shut ((q = 0 ∧ L = 0) ∨ (1 ≤ q ∧ L = val8 R (q - 1))) ∧ Own wr 3 1 u q (its ((List.range q).map (val8 R))) ∧ Shut (∀ g, u.ownBlock = some g → w2.heap.size ≤ g) ∧ Shut (goodL ((List.range q).map (val8 R))) ∧ Below w2.heap.size w2 wr) (fun _ _ i _ => 8 * K - (intOf i).toNat)
  case atStart => exact ⟨0, 0, 0, Nat.zero_le _, rfl, rfl, rfl, by omega, ⟨.inl ⟨rfl, rfl⟩⟩, Own.nil _ _ _, ⟨fun g hg => by cases hg⟩, ⟨⟨List.Pairwise.nil, fun n hn => by cases hn⟩⟩, Below.refl _ _⟩
  case round =>
    obtain ⟨q, L, AT, hq, hAT, rfl, rfl, hL9, HLL, ho, HNW, HGD, hbr⟩ := hrel
    obtain ⟨A1, c1, rfl, _⟩ := ho.form
    have hsz := hbr.size
    by_cases hlt : q < K
    · have hATI : (AT : Int) < 8 * (K : Int) := by omega
      have hAT8 : AT + 8 ≤ cr := by omega
      have hAT8I : (AT : Int) + 8 ≤ (cr : Int) := by omega
      have hcne : ¬ cr = AT := by omega
      have HAT := Shut.mk hAT
      have HRB2 := Shut.mk (HRB.out.keep hbr)
      have HO := Shut.mk ho
      have HBR := Shut.mk hbr
      have HHQ := Shut.mk (And.intro hq hlt)
      clear ho hbr hAT
      go_wp2_with fail
      go_loopw [7, 40] (fun u i wr2 => ∃ j : Nat, j ≤ 8 ∧ i = .int .i64 (j : Int) ∧ u = .int .i64 ((pv R q j : Nat) : Int) ∧ Shut (pv R q j ≤ 99999999) ∧ wr2 = wr) (fun _ i _ => 8 - (intOf i).toNat)
      case atStart => exact ⟨0, by omega, rfl, rfl, ⟨by simp [pv]⟩, by trivial⟩
      case round =>
        obtain ⟨j, hj, rfl, rfl, HPV, rfl⟩ := hrel
        by_cases hj8 : j < 8
        · obtain ⟨ad, e, hc0⟩ := HRB2.out (AT + j) (by rw [HRL.out]; have := HHQ.out.2; have := HAT.out; omega)
          cases e
          rw [add_norm, Nat.zero_add] at hc0
          obtain ⟨Y, hY⟩ : ∃ Y, Y = (R.getD (AT + j) 0).toNat := ⟨_, rfl⟩
          obtain ⟨P, hP⟩ : ∃ P, P = pv R q j := ⟨_, rfl⟩
          have hYb : Y < 256 := by rw [hY]; exact (R.getD (AT + j) 0).toNat_lt
          have hPb : P ≤ 99999999 := by rw [hP]; exact HPV.out
          have HNX : Shut (pv R q (j + 1) = P * 256 + Y) := ⟨by rw [hP, hY, HAT.out]; rfl⟩
          have hjI : (j : Int) < 8 := by omega
          rw [← hY] at hc0
          rw [← hP]
          clear hY hP
          by_cases hbig : P * 256 + Y ≤ 99999999
          · have hbI : (P : Int) * 256 + (Y : Int) ≤ 99999999 := by omega
            have HPV2 : Shut (pv R q (j + 1) ≤ 99999999) := ⟨by rw [HNX.out]; exact hbig⟩
            clear hbig
            go_wp2_with fail
            go_roundw
            case rel => exact ⟨j + 1, by omega, by go_num, by rw [HNX.out]; go_num, HPV2, by trivial⟩
            case measure => first | (simp [intOf]; done) | (simp [intOf]; omega)
          · have hbI : (99999999 : Int) < (P : Int) * 256 + (Y : Int) := by omega
            have HBAD : Shut (¬ goodL (vals R)) := ⟨by
              rw [HVL.out]
              refine vals_bad (q := q) (by have := HHQ.out.2; omega) (fun hg => ?_)
              rw [range_snoc] at hg
              have h3 := (goodL_last hg).2.1
              rw [val8_eq] at h3
              have h4 := pv_mono R q (j + 1) 8 (by omega)
              rw [HNX.out] at h4
              omega⟩
            clear hbig
            go_wp2_with fail
            go_ret
            exact ⟨HB2.out.trans (HBR.out.mono HB2.out.size), .inl ⟨HBAD.out, rfl⟩⟩
        · obtain rfl : j = 8 := by omega
          obtain ⟨V, hV⟩ : ∃ V, V = pv R q 8 := ⟨_, rfl⟩
          have HV : Shut (V = val8 R q) := ⟨by rw [val8_eq]; exact hV⟩
          have hVb : V ≤ 99999999 := by rw [hV]; exact HPV.out
          rw [← hV]
          clear hV HPV hj hj8
          by_cases hVL : V ≤ L
          · have hI : (V : Int) ≤ (L : Int) := by omega
            have HBAD : Shut (¬ goodL (vals R)) := ⟨by
              rw [HVL.out]
              refine vals_bad (q := q) (by have := HHQ.out.2; omega) (fun hg => ?_)
              rw [range_snoc] at hg
              have h3 := goodL_last hg
              have h5 := HV.out
              rcases HLL.out with ⟨h6, h7⟩ | ⟨h6, h7⟩
              · have := h3.1
                omega
              · have hne : (List.range q).map (val8 R) ≠ [] := fun e => by
                  have := congrArg List.length e
                  simp at this
                  omega
                have h8 := h3.2.2 hne
                rw [last_map9 (val8 R) q hne] at h8
                omega⟩
            clear hVL
            go_wp2_with fail
            go_ret
            exact ⟨HB2.out.trans (HBR.out.mono HB2.out.size), .inl ⟨HBAD.out, rfl⟩⟩
          · have hI : ¬ (V : Int) ≤ (L : Int) := by omega
            have HGD2 : Shut (goodL ((List.range (q + 1)).map (val8 R))) := ⟨by
              rw [range_snoc]
              have h5 := HV.out
              refine goodL_snoc HGD.out (by omega) (by omega) (fun hne => ?_)
              rw [last_map9 (val8 R) q hne]
              rcases HLL.out with ⟨h6, h7⟩ | ⟨h6, h7⟩
              · subst h6
                simp at hne
              · omega⟩
            have hq500 : q ≤ 500 := by have := HHQ.out.2; omega
            clear hVL
            go_wp2_with (at_builtin; refine wpList_append _ rfl _ _ _ rfl 3 i0 _ 1 8 Tryz.underlying40 hi hz0 hz1 hz2 rfl (by decide) _ _ _ rfl (HO.out.alloc _) _ 1 1 _ rfl (by rfl) (rd_new _ _ 3) (by simp [Value.oneCell']) (by simp only [maxLen]; omega) (by omega) ?_; intro v6 w6 hap6)
            have hap7 : ∃ o, Appended (wr.alloc o) w6 3 1 (.slice A1 q c1) v6 q 1 (its ((List.range q).map (val8 R))) [.int .i64 (V : Int)] := ⟨_, hap6⟩
            obtain ⟨o6, hap7⟩ := hap7
            clear hap6
            have hkb := kb_app2 hap7
            have hb6 : Below w2.heap.size w2 w6 := hkb.below HBR.out (fun x hx => HNW.out x (by simpa using hx)) HBR.out.size
            have ho6 := hap7.own.cast (show q + 1 = q + 1 from rfl) (show its ((List.range q).map (val8 R)) ++ [.int .i64 (V : Int)] = its ((List.range (q + 1)).map (val8 R)) by
              rw [range_snoc, its, its, List.map_append, HV.out]
              rfl)
            have HNW2 : Shut (∀ g, v6.ownBlock = some g → w2.heap.size ≤ g) := ⟨new_append (by have := HBR.out.size; simp; omega) HNW.out hap7.lies⟩
            have HO6 := Shut.mk ho6
            have HB6 := Shut.mk hb6
            clear hkb hb6 ho6 hap7
            go_wp2_with fail
            go_roundw
            case rel => exact ⟨q + 1, V, AT + 8, by have := HHQ.out.2; omega, by have := HAT.out; omega, by go_num, rfl, hVb, ⟨.inr ⟨by omega, by rw [HV.out]; rfl⟩⟩, HO6.out, HNW2, HGD2, HB6.out⟩
            case measure => first | (simp [intOf]; done) | (simp [intOf]; omega)
    · obtain rfl : q = K := by omega
      subst hAT
      obtain ⟨g7, k7, e7, _, _⟩ := ho.head (by omega)
      cases e7
      have HO := Shut.mk ho
      have HBX := Shut.mk (HB2.out.trans (hbr.mono HB2.out.size))
      have hg7 := HNW.out g7 rfl
      have hs2 := HB2.out.size
      clear ho hbr
      go_wp2_with fail
      go_ret
      exact ⟨HBX.out, .inr ⟨by rw [HVL.out]; exact HGD.out, g7, c1, rfl, by rw [HVL.out]; exact HO.out, by omega⟩⟩
/-- the segments of any bytes -/
theorem rnum_calls (A : Option Addr) (c N : Nat) (b : List UInt8) (w : World) (hA : ∀ a, A = some a → ∃ g o, a = ⟨g, o, none⟩) (hr : RdB w A b) (hN : b.length = N) (hc : N ≤ c) (hm : N ≤ 1048576) :
    Calls Tryz.prog 77 #[.slice A N c] w fun e w' => Below w.heap.size w w' ∧ ((prsL b = none ∧ e = .returned (.slice none 0 0)) ∨ ∃ ss g c', prsL b = some ss ∧ e = .returned (.slice (some ⟨g, 0, none⟩) ss.length c') ∧ Own w' 3 1 (.slice (some ⟨g, 0, none⟩) ss.length c') ss.length (its ss) ∧ w.heap.size ≤ g) := by
  have hnil2 := fun (W : World) => Lib.run_eql_slice_nil (P := Tryz.prog) W 27 5 none 0 0 0 0 Tryz.underlying27
  have hnil := fun (W : World) (g n c : Nat) => Lib.run_eql_slice_nil (P := Tryz.prog) W 27 5 (some ⟨g, 0, none⟩) n c 0 0 Tryz.underlying27
  have hun : ∀ {Q : Prop}, (fstL b = none → Calls Tryz.prog 100 #[.slice A N c] w (fun e w' => e = .returned (.slice none 0 0) ∧ Below w.heap.size w w')) ∧ (∀ R, fstL b = some R → Calls Tryz.prog 100 #[.slice A N c] w (fun e w' => ∃ g c', e = .returned (.slice (some ⟨g, 0, none⟩) R.length c') ∧ Below w.heap.size w w')) := by
    intro _
    by_cases h41 : N ≤ 40
    · have hf : fstL b = none := by unfold fstL; rw [if_pos (by omega)]
      refine ⟨fun _ => (unframe_none A c N w h41).mono fun e w' ⟨he, hw⟩ => ⟨he, hw ▸ Below.refl _ _⟩, fun R h => by rw [hf] at h; cases h⟩
    · obtain ⟨a, rfl, _⟩ := hr 0 (by omega)
      obtain ⟨g, o, rfl⟩ := hA a rfl
      refine ⟨fun hf => (unframe_some g o c N b w hr hN hc hm (by omega)).mono ?_, fun R hf => (unframe_some g o c N b w hr hN hc hm (by omega)).mono ?_⟩
      · rintro e w' ⟨hb, ⟨_, h⟩ | ⟨r, g', c', h, _⟩⟩
        · exact ⟨h, hb⟩
        · rw [hf] at h
          cases h
      · rintro e w' ⟨hb, ⟨h, _⟩ | ⟨r, g', c', h, rfl, _⟩⟩
        · rw [hf] at h
          cases h
        · rw [hf] at h
          injection h with h
          subst h
          exact ⟨g', c', rfl, hb⟩
  obtain ⟨hu1, hu2⟩ := hun (Q := True)
  cases hf : fstL b with
  | none =>
    have HU := Shut.mk (hu1 hf)
    have HP : Shut (prsL b = none) := ⟨by unfold prsL; rw [hf]⟩
    clear hu1 hu2 hun hr hf hN
    go_enter Tryz.func77, Tryz.ntmps77
    go_wp2_with fail
    refine HU.out.mono ?_
    rintro e w2 ⟨rfl, hb2⟩
    have HB2 := Shut.mk hb2
    clear hb2
    go_wp2_with fail
    go_ret
    exact ⟨HB2.out, .inl ⟨HP.out, rfl⟩⟩
  | some R =>
    obtain ⟨hR1, hR2⟩ := (fstL_some hf).1
    by_cases hlen : N = 40 + R.length ∧ R.length % 8 = 0
    · obtain ⟨h1, h2⟩ := hlen
      obtain ⟨K, hK⟩ : ∃ K, R.length = 8 * K := ⟨R.length / 8, by omega⟩
      have hAA : ∃ g o, A = some ⟨g, o, none⟩ := by
        obtain ⟨a, rfl, _⟩ := hr 0 (by omega)
        obtain ⟨g, o, rfl⟩ := hA a rfl
        exact ⟨g, o, rfl⟩
      refine (rnum_loop A c N K b R w hAA hr hN hc hm hf hK (by omega) (by omega) (by omega)).mono ?_
      rintro e w' ⟨hb, ⟨hg, rfl⟩ | ⟨hg, g, c', rfl, ho, hgg⟩⟩
      · refine ⟨hb, .inl ⟨?_, rfl⟩⟩
        unfold prsL
        rw [hf]
        exact if_neg (fun h => hg h.2.2)
      · have hl : (vals R).length = K := by
          unfold vals
          rw [List.length_map, List.length_range, hK]
          omega
        refine ⟨hb, .inr ⟨vals R, g, c', ?_, by rw [hl], by rw [hl]; exact ho, hgg⟩⟩
        unfold prsL
        rw [hf]
        exact if_pos ⟨by rw [hN, h1], h2, hg⟩
    · have HU := Shut.mk (hu2 R hf)
      have HP : Shut (prsL b = none) := ⟨by
        unfold prsL
        rw [hf]
        exact if_neg (fun h => hlen ⟨by rw [← hN]; exact h.1, h.2.1⟩)⟩
      obtain ⟨RL, hRL⟩ : ∃ RL, RL = R.length := ⟨_, rfl⟩
      rw [← hRL] at HU hlen hR1 hR2
      clear hu1 hu2 hun hr hf hRL hN
      by_cases hl2 : N = 40 + RL
      · have h8 : RL % 8 ≠ 0 := fun e => hlen ⟨hl2, e⟩
        subst hl2
        obtain ⟨RM, hRM⟩ : ∃ RM, RM = RL % 8 := ⟨_, rfl⟩
        have hI : (RL : Int).tmod 8 = (RM : Int) := by rw [Int.tmod_eq_emod_of_nonneg (by omega)]; omega
        have hI2 : ¬ ((RM : Int) = 0) := by omega
        clear hRM h8 hlen
        go_enter Tryz.func77, Tryz.ntmps77
        go_wp2_with fail
        refine HU.out.mono ?_
        rintro e w2 ⟨g, c', rfl, hb2⟩
        have HB2 := Shut.mk hb2
        clear hb2
        go_wp2_with fail
        go_ret
        exact ⟨HB2.out, .inl ⟨HP.out, rfl⟩⟩
      · have hI : ¬ ((N : Int) = 40 + (RL : Int)) := by omega
        clear hlen hl2
        go_enter Tryz.func77, Tryz.ntmps77
        go_wp2_with fail
        refine HU.out.mono ?_
        rintro e w2 ⟨g, c', rfl, hb2⟩
        have HB2 := Shut.mk hb2
        clear hb2
        go_wp2_with fail
        go_ret
        exact ⟨HB2.out, .inl ⟨HP.out, rfl⟩⟩
end Go.Proofs.YtmlfeljhojmbbaaGreatDoor

namespace Go.Proofs.YtmlfeljhojmbbaaGreatDoor
open Go.RowKit Go.Maps Go.Sort
set_option linter.unusedSimpArgs false
set_option linter.unusedVariables false
set_option maxRecDepth 100000

section
variable {w w' : World} {gl gx : Nat} {M : List Nat} {d d' : Ds} {k k' : Nat} {l l' : List Nat} {dead dead' : Bool}
theorem LX.disk2 (h : LX w gl gx M d k l dead) : ∃ G, ND w gx G d k ∧ ∀ {w' : World} {d' : Ds} {k' : Nat}, NStp w w' gx G d' k' → LXS w w' gl gx M d' k' l dead ∧ ∀ p : Addr, p.block < w.heap.size → (p.block = gl ∨ p.block ∉ M) → w'.cell? p = w.cell? p := by
  obtain ⟨⟨G, A, c, h1, h2, h3, h4, h5, h6⟩, h7, h8⟩ := h
  refine ⟨G, h1, ?_⟩
  rintro w' d' k' ⟨G', q1, q2, q3⟩
  have hgl : gl < w.heap.size := h2.lt
  refine ⟨⟨G' ++ M, ⟨⟨G', A, c, q1, q2.blk h2 (fun hx => (h5 _ hx).2 rfl), rd_kept h3 q2 (fun a ha hl hx => (h6 a ha (ne_its hl)).1 (h5 _ hx).1), h4, fun x hx => ⟨List.mem_append_left _ hx, ?_⟩, fun a ha hl => ⟨fun hx => ?_, Nat.lt_of_lt_of_le (h6 a ha hl).2 q2.size⟩⟩, List.mem_append_right _ h7, fun x hx => ?_⟩, q2.mono fun x hx => (h5 x hx).1, fun x hx => ?_⟩, fun p hp hpb => World.cell?_of_block (w := w) (q2.block _ hp (fun hx => ?_))⟩
  · rcases q3 x hx with h | h
    · exact (h5 x h).2
    · omega
  · obtain ⟨b1, b2⟩ := h6 a ha hl
    rcases List.mem_append.1 hx with hx | hx
    · rcases q3 _ hx with h | h
      · exact b1 (h5 _ h).1
      · omega
    · exact b1 hx
  · rcases List.mem_append.1 hx with hx | hx
    · exact q1.lt x hx
    · exact Nat.lt_of_lt_of_le (h8 x hx) q2.size
  · rcases List.mem_append.1 hx with hx | hx
    · exact (q3 x hx).imp (fun h => (h5 x h).1) id
    · exact .inl hx
  · rcases hpb with h | h
    · exact (h5 _ hx).2 h
    · exact h (h5 _ hx).1
theorem lx_cut2 (h : LX w gl gx M d k l dead) (s : ByteArray) (x : Int) :
    Calls Tryz.prog 27 #[gq gx, .string s, .int .i64 x] w fun e w' => e = .returned (.int .i64 (dCut d s.data.toList x).1) ∧ LXS w w' gl gx M (dCut d s.data.toList x).2 k l dead ∧ ∀ p : Addr, p.block < w.heap.size → (p.block = gl ∨ p.block ∉ M) → w'.cell? p = w.cell? p := by
  obtain ⟨G, h1, h2⟩ := h.disk2
  exact (nd_cut h1 s x).mono fun e w' ⟨he, ha⟩ => ⟨he, h2 ha⟩
/-- what cut leaves -/
def CutTo (w w' : World) (gl gx : Nat) (M : List Nat) (R : Int × Ds) (k : Nat) (l : List Nat) : Prop := ∃ l2 dead2, LXS w w' gl gx M R.2 k l2 dead2 ∧ (R.1 = 0 → l2 = l)
set_option maxHeartbeats 4000000 in
theorem rcut_calls (h : LX w gl gx M d (k + 2) l dead) (i : Nat) (hi : i < l.length) (n AT : Nat) (hn : n = l[i]) (hAT : wl d n = AT) (h9 : ∀ n ∈ l, n ≤ 99999999) (hm : l.length ≤ 500) :
    Calls Tryz.prog 102 #[gq gl, .int .i64 (i : Int), .int .i64 (AT : Int)] w fun e w' => e = .returned (.int .i64 (sCut d n (l.take (i + 1)) (l.drop (i + 1))).1) ∧ CutTo w w' gl gx M (sCut d n (l.take (i + 1)) (l.drop (i + 1))) k (l.take (i + 1)) := by
  have hne : l ≠ [] := fun e => by rw [e] at hi; simp at hi
  obtain ⟨A, c, q1, hrd, hlc, hA⟩ := h.row
  obtain ⟨a, rfl, hcc⟩ := hrd (its_ne hne)
  have q2 := hcc i _ (its_get hi)
  rw [← hn] at q2
  have q0 := h.c0
  have hgl := World.block_lt_of_cell? w _ q0
  have ha2 := World.block_lt_of_cell? w _ q2
  have hn9 : n ≤ 99999999 := by rw [hn]; exact h9 _ (List.getElem_mem _)
  obtain ⟨N, hN⟩ : ∃ N, N = l.length := ⟨_, rfl⟩
  rw [← hN] at q1 hlc hi hm
  have HN := Shut.mk hN
  have HRD := Shut.mk hrd
  have HL := Shut.mk h
  have HA := Shut.mk (hA a rfl hne)
  have H9 := Shut.mk h9
  have HNI := Shut.mk hn
  obtain ⟨E1, hE1⟩ : ∃ E1, (dCut d (seg n) (AT : Int)).1 = E1 := ⟨_, rfl⟩
  obtain ⟨d1, hd1⟩ : ∃ d1, (dCut d (seg n) (AT : Int)).2 = d1 := ⟨_, rfl⟩
  have HSC : Shut (sCut d n (l.take (i + 1)) (l.drop (i + 1)) = if E1 = 0 then (if l.drop (i + 1) = [] then (0, d1) else if (dWr d1 (l.take (i + 1))).1 = 0 then lRem (dWr d1 (l.take (i + 1))).2 (l.drop (i + 1)) else dWr d1 (l.take (i + 1))) else (E1, d1)) := ⟨by
    unfold sCut
    rw [hAT, hE1, hd1]
    by_cases hz : E1 = 0
    · rw [if_pos hz, if_pos hz]
    · rw [if_neg hz, if_neg hz, ← hE1, ← hd1]⟩
  have HCU : Shut (∀ (w0 : World), LX w0 gl gx M d (k + 2) l dead → Calls Tryz.prog 27 #[gq gx, .string (segS n), .int .i64 (AT : Int)] w0 fun e w' => e = .returned (.int .i64 E1) ∧ LXS w0 w' gl gx M d1 (k + 2) l dead ∧ ∀ p : Addr, p.block < w0.heap.size → (p.block = gl ∨ p.block ∉ M) → w'.cell? p = w0.cell? p) := ⟨fun w0 h0 => by
    have := lx_cut2 h0 (segS n) (AT : Int)
    rw [segS_list, hE1, hd1] at this
    exact this⟩
  have HF : Shut (Calls Tryz.prog 101 #[.int .i64 (n : Int)] w.drew fun e w' => e = .returned (.string (segS n)) ∧ Below w.heap.size w.drew w') := ⟨(rname_calls n w.drew hn9).mono fun e w' ⟨he, hw⟩ => ⟨he, hw ▸ Below.refl _ _⟩⟩
  have hiI : (i : Int) < (N : Int) := by omega
  have HLT := Shut.mk (And.intro hgl ha2)
  have s0 : w.cell? ⟨gl, 0, none⟩ = some (gq gx) ∧ w.cell? ⟨gl, 1, none⟩ = some (.slice (some a) N c) ∧ w.cell? (a.add i) = some (.int .i64 (n : Int)) := ⟨q0, q1, q2⟩
  have HQ := Shut.mk s0
  have hkeep : ∀ (w' : World), Below w.heap.size w w' → w'.cell? ⟨gl, 0, none⟩ = some (gq gx) ∧ w'.cell? ⟨gl, 1, none⟩ = some (.slice (some a) N c) ∧ w'.cell? (a.add i) = some (.int .i64 (n : Int)) := fun w' hb => ⟨(hb.cell (World.block_lt_of_cell? w _ q0)).trans q0, (hb.cell (World.block_lt_of_cell? w _ q1)).trans q1, (hb.cell ha2).trans q2⟩
  have HKEEP := Shut.mk hkeep
  have HST : Shut (∀ (w0 w' : World), Below w.heap.size w w0 → (∀ p : Addr, p.block < w0.heap.size → (p.block = gl ∨ p.block ∉ M) → w'.cell? p = w0.cell? p) → w'.cell? ⟨gl, 0, none⟩ = some (gq gx) ∧ w'.cell? ⟨gl, 1, none⟩ = some (.slice (some a) N c) ∧ w'.cell? (a.add i) = some (.int .i64 (n : Int))) := ⟨fun w0 w' hb hp => by
    obtain ⟨r0, r1, r2⟩ := HKEEP.out w0 hb
    exact ⟨(hp _ (World.block_lt_of_cell? w0 _ r0) (.inl rfl)).trans r0, (hp _ (World.block_lt_of_cell? w0 _ r1) (.inl rfl)).trans r1, (hp _ (World.block_lt_of_cell? w0 _ r2) (.inr (by rw [block_of_add]; exact HA.out.1))).trans r2⟩⟩
  clear hrd hcc hA h h9 hn hN hE1 hd1 hAT hgl ha2 q0 q1 q2 hkeep hne
  go_enter Tryz.func102, Tryz.ntmps102
  go_wp2_with fail
  go_region_held3 (fun w' => w'.cell? ⟨gl, 0, none⟩ = some (gq gx) ∧ w'.cell? ⟨gl, 1, none⟩ = some (.slice (some a) N c) ∧ w'.cell? (a.add i) = some (.int .i64 (n : Int))) (first | exact s0 | exact t0 | exact t1 | go_keep)
    (first
      | (go_at_call 101; refine HF.out.mono ?_; rintro e w4 ⟨rfl, hb4⟩; have HB4 := Shut.mk (below_drewR (w := w) hb4); have HL4 := Shut.mk (HL.out.quiet HB4.out); have t0 := HKEEP.out _ HB4.out; clear hb4)
      | (go_at_call 27; refine (HCU.out _ HL4.out).mono ?_; rintro e w5 ⟨rfl, ⟨M5, hL5, hk5, hs5⟩, hcell5⟩; have t1 := HST.out _ _ HB4.out hcell5; have HL5 := Shut.mk hL5; have HK5 := Shut.mk (And.intro hk5 hs5); clear hL5 hk5 hs5 hcell5))
  clear s0 t0
  obtain ⟨u0, u1, u2⟩ := t1
  have HKK := Shut.mk (lkstep (⟨Kb.of_below HB4.out M, fun x hx => .inl hx⟩ : Kb w w4 M ∧ ∀ x ∈ M, x ∈ M ∨ w.heap.size ≤ x) HK5.out)
  by_cases hE : E1 = 0
  · have HSC2 := Shut.mk (HSC.out.trans (if_pos hE))
    clear HSC
    subst hE
    by_cases hb : i + 1 = N
    · have HDE : Shut (l.drop (i + 1) = []) := ⟨List.drop_of_length_le (by rw [← HN.out]; omega)⟩
      have HTE : Shut (l = l.take (i + 1)) := ⟨(List.take_of_length_le (by rw [← HN.out]; omega)).symm⟩
      have HSC3 := Shut.mk (HSC2.out.trans (if_pos HDE.out))
      subst hb
      go_wp2_with fail
      all_goals
        go_ret
        rw [HSC3.out]
        exact ⟨rfl, l, dead, ⟨M5, HL5.out.mono (by omega), HKK.out.1, HKK.out.2⟩, fun _ => HTE.out⟩
    · have hdne : l.drop (i + 1) ≠ [] := fun e => by
        have h1 := congrArg List.length e
        rw [List.length_drop, ← HN.out] at h1
        simp at h1
        omega
      have HSC3 := Shut.mk (HSC2.out.trans (if_neg hdne))
      have hcne : ¬ c = i + 1 := by omega
      have hlen : ¬ ((N : Int) = (i : Int) + 1) := by omega
      have hlen2 : ¬ (N - (i + 1) = 0) := by omega
      have hic : (i : Int) + 1 ≤ (c : Int) := by omega
      have hpl : (l.take (i + 1)).length = i + 1 := by rw [List.length_take, ← HN.out]; omega
      have hr5 : Rd w5 (some a) (its l) := by
        have h1 := rd_kept (HRD.out.keep HB4.out) HK5.out.1 (fun a' ha' _ hx => by cases ha'; exact HA.out.1 hx)
        exact h1
      have hM5 : a.block ∉ M5 := fun hx => (HK5.out.2 _ hx).elim HA.out.1 (fun h1 => by have := HA.out.2; have := HB4.out.size; omega)
      have ha5 : a.block < w5.heap.size := Nat.lt_of_lt_of_le HA.out.2 HKK.out.1.size
      have hrt : Rd w5 (some a) (its (l.take (i + 1))) := by
        have h1 := rd_take7 hr5 (i + 1)
        rw [its, ← List.map_take] at h1
        exact h1
      have hrdp : Rd w5 (some (a.add (i + 1))) (its (l.drop (i + 1))) := by
        have h1 := rd_drop7 hr5 (i + 1)
        rw [its, ← List.map_drop] at h1
        exact h1
      obtain ⟨⟨M6, hL6, hk6, hs6⟩, cel6, fr6, v6, cv6⟩ := HL5.out.setl (A := some a) (c := c) (l' := l.take (i + 1)) hrt (by rw [hpl]; omega) (fun a' ha' _ => by cases ha'; exact ⟨hM5, ha5⟩)
      rw [hpl] at hL6 hk6 cel6
      obtain ⟨W6, hW6⟩ : ∃ W6, w5.setCell ⟨gl, 1, none⟩ (.slice (some a) (i + 1) c) = W6 := ⟨_, rfl⟩
      rw [hW6] at hL6 hk6 cel6
      have hM6 : a.block ∉ M6 := fun hx => (hs6 _ hx).elim hM5 (fun h1 => by omega)
      have hrt6 := rd_kept hrt hk6 (fun a' ha' _ hx => by cases ha'; exact hM5 hx)
      have hrd6 := rd_kept hrdp hk6 (fun a' ha' _ hx => by cases ha'; rw [block_of_add] at hx; exact hM5 hx)
      have hman := rman_calls hL6 (some a) c (i + 1) (l.take (i + 1)) hrt6 hpl.symm (by omega) (by omega) (fun x hx => H9.out x (List.mem_of_mem_take hx))
      have HK6 := Shut.mk (lkstep HKK.out (And.intro hk6 hs6))
      obtain ⟨E2, hE2⟩ : ∃ E2, (dWr d1 (l.take (i + 1))).1 = E2 := ⟨_, rfl⟩
      obtain ⟨d2, hd2⟩ : ∃ d2, (dWr d1 (l.take (i + 1))).2 = d2 := ⟨_, rfl⟩
      rw [hE2, hd2] at hman
      have HMAN := Shut.mk hman
      have HRD6 := Shut.mk (And.intro hrd6 (And.intro hM6 (Nat.lt_of_lt_of_le ha5 hk6.size)))
      have HHE2 := Shut.mk hE2
      have HD2 := Shut.mk hd2
      have HDNE := Shut.mk hdne
      clear hr5 hM5 ha5 hrt hrdp hL6 hk6 hs6 hM6 hrt6 hrd6 hman hE2 hd2 hdne hpl
      go_wp2_with fail
      refine HMAN.out.mono ?_
      rintro e w7 ⟨rfl, dead7, M7, hL7, hk7, hs7⟩
      obtain ⟨hr6, hM6, ha6⟩ := HRD6.out
      have hrem := rrem_calls hL7 (some (a.add (i + 1))) (c - (i + 1)) (N - (i + 1)) (l.drop (i + 1)) (rd_kept hr6 hk7 (fun a' ha' _ hx => by cases ha'; rw [block_of_add] at hx; exact hM6 hx)) (fun a' ha' _ => by
        cases ha'
        rw [block_of_add]
        exact ⟨fun hx => (hs7 _ hx).elim hM6 (fun h1 => by omega), Nat.lt_of_lt_of_le ha6 hk7.size⟩) (by rw [List.length_drop, ← HN.out]) (fun x hx => H9.out x (List.mem_of_mem_drop hx)) (by omega)
      obtain ⟨E3, hE3⟩ : ∃ E3, (lRem d2 (l.drop (i + 1))).1 = E3 := ⟨_, rfl⟩
      obtain ⟨d3, hd3⟩ : ∃ d3, (lRem d2 (l.drop (i + 1))).2 = d3 := ⟨_, rfl⟩
      rw [hE3, hd3] at hrem
      have HREM := Shut.mk hrem
      have HL7 := Shut.mk hL7
      have HK7 := Shut.mk (lkstep HK6.out (And.intro hk7 hs7))
      have HE3 := Shut.mk (And.intro hE3 hd3)
      clear hr6 hM6 ha6 hrem hL7 hk7 hs7 hE3 hd3
      by_cases hW : E2 = 0
      · have HSC4 := Shut.mk (HSC3.out.trans (if_pos (HHE2.out.trans hW)))
        have HL2 : Shut ((lRem (dWr d1 (l.take (i + 1))).2 (l.drop (i + 1))) = (E3, d3)) := ⟨by rw [HD2.out, ← HE3.out.1, ← HE3.out.2]⟩
        clear HSC3
        subst hW
        go_wp2_with fail
        refine HREM.out.mono ?_
        rintro e w8 ⟨rfl, dead8, M8, hL8, hk8, hs8⟩
        have HL8 := Shut.mk hL8
        have HK8 := Shut.mk (lkstep HK7.out (And.intro hk8 hs8))
        clear hL8 hk8 hs8
        go_wp2_with fail
        go_ret
        rw [HSC4.out, HL2.out]
        exact ⟨rfl, _, dead8, ⟨M8, HL8.out, HK8.out.1, HK8.out.2⟩, fun _ => rfl⟩
      · have HSC4 : Shut (sCut d n (l.take (i + 1)) (l.drop (i + 1)) = (E2, d2)) := ⟨(HSC3.out.trans (if_neg (fun e => hW (HHE2.out.symm.trans e)))).trans (by rw [← HHE2.out, ← HD2.out])⟩
        clear HSC3
        go_wp2_with fail
        go_ret
        rw [HSC4.out]
        exact ⟨rfl, _, dead7, ⟨M7, HL7.out, HK7.out.1, HK7.out.2⟩, fun h => absurd h hW⟩
  · have HSC2 := Shut.mk (HSC.out.trans (if_neg hE))
    clear HSC
    go_wp2_with fail
    go_ret
    rw [HSC2.out]
    exact ⟨rfl, l, dead, ⟨M5, HL5.out.mono (by omega), HKK.out.1, HKK.out.2⟩, fun h => absurd h hE⟩
end
end Go.Proofs.YtmlfeljhojmbbaaGreatDoor

namespace Go.Proofs.YtmlfeljhojmbbaaGreatDoor
open Go.RowKit Go.Maps Go.Sort
set_option linter.unusedSimpArgs false
set_option linter.unusedVariables false
set_option maxRecDepth 100000

theorem unframe_any (g o c N : Nat) (b : List UInt8) (w : World) (hr : RdB w (some ⟨g, o, none⟩) b) (hN : b.length = N) (hc : N ≤ c) (hm : N ≤ 1048576) :
    Calls Tryz.prog 100 #[.slice (some ⟨g, o, none⟩) N c] w fun e w' => Below w.heap.size w w' ∧ ((fstL b = none ∧ e = .returned (.slice none 0 0)) ∨
      ∃ r g' c', fstL b = some r ∧ e = .returned (.slice (some ⟨g', 0, none⟩) r.length c') ∧ Own w' 5 1 (.slice (some ⟨g', 0, none⟩) r.length c') r.length (bys r) ∧ w.heap.size ≤ g') := by
  by_cases h41 : N ≤ 40
  · refine (unframe_none _ c N w h41).mono ?_
    rintro e w' ⟨rfl, rfl⟩
    exact ⟨Below.refl _ _, .inl ⟨by unfold fstL; rw [if_pos (by omega)], rfl⟩⟩
  · exact unframe_some g o c N b w hr hN hc hm (by omega)
/-- what the document's scan leaves -/
def RScn (w w' : World) (gl gx : Nat) (M : List Nat) (R : Int × List (List UInt8) × Ds) (k : Nat) (e : Ending) : Prop :=
  ∃ v l' dead', e = .returned (.tuple #[v, .int .i64 R.1]) ∧ Recs w' w.heap.size (fun x => w.heap.size ≤ x) v R.2.1 ∧ LXS w w' gl gx M R.2.2 k l' dead'
structure Xst (w : World) (B : Nat) (w2 : World) (gl gx : Nat) (M M2 : List Nat) (d : Ds) (k : Nat) (l : List Nat) (dead : Bool) (u : Value) (rs : List (List UInt8)) : Prop where
  lx : LX w2 gl gx M2 d k l dead
  kb : Kb w w2 M
  sub : ∀ x ∈ M2, x ∈ M ∨ B ≤ x
  lo : w.heap.size ≤ B
  hi : B ≤ w2.heap.size
  hM : ∀ x ∈ M, x < w.heap.size
  rc : Recs w2 w.heap.size (fun x => w.heap.size ≤ x ∧ x < B) u rs
  own : ∀ g, u.ownBlock = some g → g < B
section
variable {w w2 w3 : World} {B gl gx : Nat} {M M2 : List Nat} {d d' : Ds} {k k' : Nat} {l l' : List Nat} {dead dead' : Bool} {u : Value} {rs : List (List UInt8)}
theorem Xst.free (h : Xst w B w2 gl gx M M2 d k l dead u rs) {x : Nat} (h1 : w.heap.size ≤ x) (h2 : x < B) : x ∉ M2 := fun hx => by
  rcases h.sub x hx with h3 | h3
  · have := h.hM x h3
    omega
  · omega
theorem Xst.step (h : Xst w B w2 gl gx M M2 d k l dead u rs) (hst : LXS w2 w3 gl gx M2 d' k' l' dead') : ∃ M3, Xst w B w3 gl gx M M3 d' k' l' dead' u rs := by
  obtain ⟨M3, g1, g2, g3⟩ := hst
  have hlo : ∀ g, u.ownBlock = some g → w.heap.size ≤ g := by
    obtain ⟨vs, _, _, hlo⟩ := h.rc
    exact hlo
  refine ⟨M3, g1, h.kb.trans g2 (fun x hx => (h.sub x hx).imp id (fun h1 => Nat.le_trans h.lo h1)), fun x hx => ?_, h.lo, Nat.le_trans h.hi g2.size, h.hM, h.rc.kept g2 (fun g hg => h.free (hlo g hg) (h.own g hg)) (fun x hx _ => h.free hx.1 hx.2), h.own⟩
  rcases g3 x hx with h1 | h1
  · exact h.sub x h1
  · exact .inr (Nat.le_trans h.hi h1)
theorem Xst.fin (h : Xst w B w2 gl gx M M2 d k l dead u rs) : RScn w w2 gl gx M (0, rs, d) k (.returned (.tuple #[u, .int .i64 0])) :=
  ⟨u, l, dead, rfl, h.rc.imp (Nat.le_refl _) (fun x hx => hx.1), M2, h.lx, h.kb, fun x hx => (h.sub x hx).imp id (fun h1 => Nat.le_trans h.lo h1)⟩
theorem Xst.bad (h : Xst w B w2 gl gx M M2 d k l dead u rs) (E : Int) : RScn w w2 gl gx M (E, [], d) k (.returned (.tuple #[.slice none 0 0, .int .i64 E])) :=
  ⟨_, l, dead, rfl, Recs.nil _ _ _, M2, h.lx, h.kb, fun x hx => (h.sub x hx).imp id (fun h1 => Nat.le_trans h.lo h1)⟩
theorem Dv.cont_le (h : Dv d k) (n : Nat) : (cont d n).length ≤ 1048576 := by
  unfold cont
  cases hl : look d.S (seg n) with
  | none => simp
  | some p =>
    obtain ⟨b, sy⟩ := p
    exact (h.lk hl).2.1
theorem lx_read (h : LX w gl gx M d k l dead) (n : Nat) :
    Calls Tryz.prog 76 #[gq gx, .string (segS n)] w fun e w' => ∃ A c E, e = .returned (.tuple #[.slice A (cont d n).length c, .int .i64 E]) ∧ Own w' 5 1 (.slice A (cont d n).length c) (cont d n).length (bys (cont d n)) ∧ Below w.heap.size w w' := by
  obtain ⟨G, h1, h2⟩ := h.disk
  have := nd_read h1 (segS n)
  rw [segS_list] at this
  refine this.mono ?_
  rintro e w' ⟨A, c, he, ho, hb⟩
  exact ⟨A, c, _, he, ho, hb⟩
end
section
variable {w w' : World} {gl gx : Nat} {M : List Nat} {d : Ds} {k : Nat} {l : List Nat} {dead : Bool}
set_option maxHeartbeats 8000000 in
theorem rscan_calls (h : LX w gl gx M d (k + 2) l dead) (hl : l ≠ []) (h9 : ∀ n ∈ l, n ≤ 99999999) (hm : l.length ≤ 500) :
    Calls Tryz.prog 79 #[gq gl] w fun e w' => RScn w w' gl gx M (gScan d l) k e := by
  obtain ⟨i0, hi, hz0, hz1, hz2⟩ := info_parts info_rows
  have hnil := fun (W : World) (g n c : Nat) => Lib.run_eql_slice_nil (P := Tryz.prog) W 27 5 (some ⟨g, 0, none⟩) n c 0 0 Tryz.underlying27
  have hnil2 := fun (W : World) => Lib.run_eql_slice_nil (P := Tryz.prog) W 27 5 none 0 0 0 0 Tryz.underlying27
  obtain ⟨A, c, q1, g2, hlc, hA⟩ := h.row
  obtain ⟨a, rfl, hcc⟩ := g2 (its_ne hl)
  obtain ⟨N, hN⟩ : ∃ N, N = l.length := ⟨_, rfl⟩
  rw [← hN] at q1 hm hlc
  have hpos : 0 < N := by rw [hN]; exact List.length_pos_iff.2 hl
  have hrecle : ∀ n, (rdL (cont d n)).length ≤ 30000 := fun n => by
    have h1 := rdL_many _ (cont d n) (Nat.le_refl _)
    have h2 := rdL_len (cont d n)
    have h3 := h.dv.cont_le n
    omega
  have HCC := Shut.mk hcc
  have HL := Shut.mk h
  have HLL := Shut.mk h9
  have HN := Shut.mk hN
  have HRC := Shut.mk hrecle
  clear h g2 hcc hA h9 hN hrecle
  go_enter Tryz.func79, Tryz.ntmps79
  go_wp2_with fail
  go_loopw [4, 20] (fun u i wr => ∃ q : Nat, q ≤ N ∧ i = .int .i64 q ∧ Below w.heap.size w wr ∧ (∀ j, (hj : j < l.length) → j < q → whole d l[j]) ∧
    Shut (Recs wr w.heap.size (fun x => w.heap.size ≤ x) u (recsL d (l.take q))) ∧ (recsL d (l.take q)).length ≤ 30000 * q) (fun _ i _ => N - (intOf i).toNat)
  case atStart => exact ⟨0, Nat.zero_le _, rfl, Below.refl _ _, fun j _ h => by omega, ⟨Recs.nil _ _ _⟩, Nat.le_refl _⟩
  case round =>
    obtain ⟨q, hq, rfl, hbr, hwk, HREC, hcnt⟩ := hrel
    obtain ⟨Av, cv, rfl⟩ : ∃ Av cv, u4 = .slice Av (recsL d (l.take q)).length cv := by
      obtain ⟨vs, hov, _⟩ := HREC.out
      obtain ⟨Av, cv, h, _⟩ := hov.form
      exact ⟨Av, cv, h⟩
    have hsz := hbr.size
    by_cases hlt : q < N
    · have hql : q < l.length := by rw [← HN.out]; exact hlt
      have c0 := HCC.out q _ (its_get hql)
      have c2 := (hbr.cell (World.block_lt_of_cell? w _ c0)).trans c0
      obtain ⟨n, hn⟩ : ∃ n, n = l[q] := ⟨_, rfl⟩
      have hn9 : n ≤ 99999999 := by rw [hn]; exact HLL.out _ (List.getElem_mem _)
      rw [← hn] at c2
      have HTK : Shut (recsL d (l.take (q + 1)) = recsL d (l.take q) ++ rdL (cont d n)) := ⟨by
        rw [List.take_succ_eq_append_getElem hql, recsL, List.flatMap_append, ← hn]
        simp [recsL]⟩
      have HNK := Shut.mk hn
      have HBR := Shut.mk hbr
      have HWK := Shut.mk hwk
      obtain ⟨b, hb⟩ : ∃ b, b = cont d n := ⟨_, rfl⟩
      have HBN := Shut.mk hb
      have hblen : b.length ≤ 1048576 := by rw [hb]; exact HL.out.dv.cont_le n
      obtain ⟨NB, hNB⟩ : ∃ NB, NB = b.length := ⟨_, rfl⟩
      have HNB := Shut.mk hNB
      rw [← hNB] at hblen
      have hcn := HRC.out n
      rw [← hb] at HTK hcn
      have hkI : (q : Int) < (N : Int) := by omega
      have HLR := Shut.mk (HL.out.quiet hbr)
      have s0 := HLR.out.c0
      have HF : Shut (Calls Tryz.prog 101 #[.int .i64 (n : Int)] wr.drew fun e w' => e = .returned (.string (segS n)) ∧ Below wr.heap.size wr.drew w') := ⟨(rname_calls n wr.drew hn9).mono fun e w' ⟨he, hw⟩ => ⟨he, hw ▸ Below.refl _ _⟩⟩
      clear c0 hn hbr hwk hb hNB
      go_wp2_with fail
      go_region_held3 (fun w' => w'.cell? ⟨gl, 0, none⟩ = some (gq gx)) (first | exact s0 | exact t0 | exact t1 | go_keep)
        (first
          | (go_at_call 101; refine HF.out.mono ?_; rintro e w4 ⟨rfl, hb4⟩; have HB4R := Shut.mk (below_drewR (w := wr) hb4); have HB4 := Shut.mk (HBR.out.trans (HB4R.out.mono HBR.out.size)); have HL4 := Shut.mk (HL.out.quiet HB4.out); have t0 := HL4.out.c0; clear hb4)
          | (go_at_call 76; refine (lx_read HL4.out n).mono ?_; rintro e w5 ⟨A5, c5, E5, rfl, ho5, hb5⟩; have HB5 := Shut.mk (HB4.out.trans (hb5.mono HB4.out.size)); have HB5R := Shut.mk (HB4R.out.trans (hb5.mono HB4R.out.size)); have HL5 := Shut.mk (HL.out.quiet HB5.out); have t1 := HL5.out.c0; have HO5 := Shut.mk ho5; clear ho5 hb5))
      clear s0 t0 t1
      rw [← HBN.out] at HO5 ⊢
      rw [← HNB.out] at HO5 ⊢
      have hac5 : NB ≤ c5 := by
        obtain ⟨A6, c6, e6, _, h6, _⟩ := HO5.out.form
        cases e6
        exact h6
      have HRB5 := Shut.mk (rdb_own _ HO5.out)
      have HRC5 := Shut.mk (HREC.out.quiet HB5R.out)
      have HAR5 : Shut (∀ g, (Value.slice Av (recsL d (l.take q)).length cv).ownBlock = some g → ∀ a, A5 = some a → a.block ≠ g) := ⟨fun g hg a ha e => by
        obtain ⟨vs, hov, _⟩ := HRC5.out
        obtain ⟨A6, c6, e6, _, _, _, h6, _⟩ := HO5.out.form
        cases e6
        refine own_types_ne hov HO5.out (by decide) g hg ?_
        rw [h6, ha, ← e]
        rfl⟩
      have hs55 := HB5.out.size
      go_wp2_with fail
      go_loopw [4, 9] (fun u at_ wr2 => ∃ done : List (List UInt8), at_ = .int .i64 ((frs done).length : Int) ∧ Shut (rdL b = done ++ rdL (b.drop (frs done).length)) ∧ (frs done).length ≤ NB ∧ 41 * done.length ≤ (frs done).length ∧ Below w.heap.size w wr2 ∧ Shut (RdB wr2 A5 b) ∧
        Shut (Recs wr2 w.heap.size (fun x => w.heap.size ≤ x) u (recsL d (l.take q) ++ done)) ∧ Shut (∀ g, u.ownBlock = some g → ∀ a, A5 = some a → a.block ≠ g)) (fun _ i _ => NB - (intOf i).toNat)
      case atStart => exact ⟨[], rfl, ⟨rfl⟩, Nat.zero_le _, Nat.le_refl _, HB5.out, HRB5, by rw [List.append_nil]; exact HRC5, HAR5⟩
      case round =>
        obtain ⟨done, rfl, hrd, hdn, hdc, hb7, HRB7, HREC7, HAR7⟩ := hrel
        have hs77 := hb7.size
        have HB7 := Shut.mk hb7
        obtain ⟨AT, hAT⟩ : ∃ AT, AT = (frs done).length := ⟨_, rfl⟩
        have HATE := Shut.mk hAT
        rw [← hAT] at hdn hdc ⊢
        clear hb7 hAT
        by_cases hat : AT < NB
        · have hatI : (AT : Int) < (NB : Int) := by omega
          have hA5 : ∃ g5, A5 = some ⟨g5, 0, none⟩ := by
            obtain ⟨g5, c6, e6, _⟩ := HO5.out.head (by omega)
            cases e6
            exact ⟨g5, rfl⟩
          obtain ⟨g5, rfl⟩ := hA5
          have hcne : ¬ c5 = AT := by omega
          have hatc : (AT : Int) ≤ (c5 : Int) := by omega
          have hrdp : RdB wr (some ⟨g5, AT, none⟩) (b.drop AT) := by
            have h1 := rdB_piece HRB7.out AT (NB - AT)
            rw [add_head] at h1
            rwa [List.take_of_length_le (by rw [List.length_drop, ← HNB.out]; exact Nat.le_refl _)] at h1
          have HUN := Shut.mk (unframe_any g5 AT (c5 - AT) (NB - AT) (b.drop AT) wr hrdp (by rw [List.length_drop, ← HNB.out]) (by omega) (by omega))
          clear hrdp
          go_wp2_with fail
          refine HUN.out.mono ?_
          rintro e w8 ⟨hb8, ⟨hf7, rfl⟩ | ⟨x, g', c', hf7, rfl, hox, hgx⟩⟩
          · -- what is behind the last whole record goes
            have hdone : rdL b = done := by rw [hrd.out, ← HATE.out, rdL_none hf7, List.append_nil]
            have HWL : Shut (wl d n = AT) := ⟨by rw [wl, ← HBN.out, hdone, HATE.out]⟩
            have HEQ2 : Shut (recsL d (l.take q) ++ done = recsL d (l.take (q + 1))) := ⟨by rw [HTK.out, hdone]⟩
            have HB8 := Shut.mk (HB7.out.trans (hb8.mono HB7.out.size))
            have HREC8 := Shut.mk (HREC7.out.quiet hb8)
            clear hrd hf7 hb8 hdone
            have HNW : Shut (¬ whole d n) := ⟨fun e => by
              unfold whole at e
              rw [HWL.out, ← HBN.out, ← HNB.out] at e
              omega⟩
            have hsc := sScn_at d l q hql (fun j hj hjk => HWK.out j hj hjk) (by rw [← HNK.out]; exact HNW.out)
            rw [← HNK.out] at hsc
            have hcut := rcut_calls (HL.out.quiet HB8.out) q hql n AT HNK.out HWL.out HLL.out (by rw [← HN.out]; exact hm)
            obtain ⟨⟨E1, d1⟩, hR1⟩ : ∃ R, sCut d n (l.take (q + 1)) (l.drop (q + 1)) = R := ⟨_, rfl⟩
            rw [hR1] at hcut hsc
            have HCU : Shut (Calls Tryz.prog 102 #[gq gl, .int .i64 (q : Int), .int .i64 (AT : Int)] w8 fun e w' => e = .returned (.int .i64 E1) ∧ CutTo w8 w' gl gx M (E1, d1) k (l.take (q + 1))) := ⟨hcut⟩
            have HSC : Shut (sScn d [] l = (E1, l.take (q + 1), recsL d (l.take (q + 1)), d1)) := ⟨hsc⟩
            have hx0 : Xst w w8.heap.size w8 gl gx M M d (k + 2) l dead u4 (recsL d (l.take (q + 1))) := ⟨HL.out.quiet HB8.out, Kb.of_below HB8.out M, fun x hx => .inl hx, HB8.out.size, Nat.le_refl _, HL.out.lt, (HEQ2.out ▸ HREC8.out.bound : Recs w8 w.heap.size (fun x => w.heap.size ≤ x ∧ x < w8.heap.size) u4 (recsL d (l.take (q + 1)))), fun g hg => by
              obtain ⟨vs, hov, _⟩ := HREC8.out
              exact hov.block_lt hg⟩
            have HX0 := Shut.mk hx0
            have hATI : (AT : Int) < (NB : Int) := by omega
            clear hcut hsc hR1 hx0
            go_wp2_with fail
            refine HCU.out.mono ?_
            rintro e w9 ⟨rfl, l2, dead2, hst9, hl2⟩
            obtain ⟨M9, hx9⟩ := HX0.out.step hst9
            have HX9 := Shut.mk hx9
            clear hst9 hx9
            by_cases hE : E1 = 0
            · have HL2E : Shut (l2 = l.take (q + 1)) := ⟨hl2 hE⟩
              subst hE
              obtain rfl := HL2E.out
              have HNE : Shut ((l.take (q + 1)).length = q + 1) := ⟨by rw [List.length_take, ← HN.out]; omega⟩
              have HLE4 : Shut (∀ x ∈ l.take (q + 1), x ≤ 99999999) := ⟨fun x hx => HLL.out x (List.mem_of_mem_take hx)⟩
              clear hl2 HL2E
              -- the syncs
              obtain ⟨A20, c20, q20, hr20, hlc20, hA20⟩ := HX9.out.lx.row
              rw [HNE.out] at q20 hlc20
              have HR20 := Shut.mk hr20
              have HA20 := Shut.mk hA20
              clear hr20 hA20
              go_wp2_with fail
              go_loopw [71] (fun i wr => ∃ qs : Nat, qs ≤ (q + 1) ∧ i = .int .i64 qs ∧ Shut (∃ dk deadk, LXS w9 wr gl gx M9 dk k (l.take (q + 1)) deadk ∧ sSyn d1 (l.take (q + 1)) = sSyn dk (((l.take (q + 1))).drop qs))) (fun i _ => (q + 1) - (intOf i).toNat)
              case atStart => exact ⟨0, Nat.zero_le _, rfl, ⟨d1, dead2, LXS.same HX9.out.lx, rfl⟩⟩
              case round =>
                obtain ⟨qs, hk, rfl, HST⟩ := hrel
                obtain ⟨dk, deadk, ⟨M21, hL21, hk21, hs21⟩, hsy⟩ := HST.out
                have HSY := Shut.mk hsy
                clear HST hsy
                by_cases hlt : qs < (q + 1)
                · have hql : qs < ((l.take (q + 1))).length := by rw [HNE.out]; exact hlt
                  obtain ⟨n', hn'⟩ : ∃ n', n' = ((l.take (q + 1)))[qs] := ⟨_, rfl⟩
                  have hn9' : n' ≤ 99999999 := by rw [hn']; exact HLE4.out _ (List.getElem_mem _)
                  have hne' : ((l.take (q + 1))) ≠ [] := fun e => by rw [e] at hql; simp at hql
                  obtain ⟨a20, ha20, hc20⟩ := HR20.out (its_ne hne')
                  have hA20' := HA20.out a20 ha20 hne'
                  subst ha20
                  have c0 := hc20 qs _ (its_get hql)
                  rw [← hn'] at c0
                  have c2 : wr.cell? (a20.add qs) = some (.int .i64 (n' : Int)) := (World.cell?_of_block (w := w9) (hk21.block _ (World.block_lt_of_cell? w9 _ c0) (fun hx => by
                    rw [block_of_add] at hx
                    exact hA20'.1 hx))).trans c0
                  have HDR : Shut (((l.take (q + 1))).drop qs = n' :: ((l.take (q + 1))).drop (qs + 1)) := ⟨by rw [List.drop_eq_getElem_cons hql, hn']⟩
                  have HL21 := Shut.mk hL21
                  have HKS21 := Shut.mk (And.intro hk21 hs21)
                  have hkI : (qs : Int) < ((q + 1) : Int) := by omega
                  have s0 := hL21.c0
                  have HLS := Shut.mk (lx_list hL21)
                  have hlen21 := lsD_len hL21
                  clear hc20 c0 hn' hL21 hk21 hs21 hql hne' hA20'
                  go_wp2_with fail
                  refine HLS.out.mono ?_
                  rintro e w22 ⟨v22, rfl, ho22, hb22, _⟩
                  have HL22 := Shut.mk (HL21.out.quiet hb22)
                  have HK22 := Shut.mk (lkquiet HKS21.out hb22)
                  have HO22 := Shut.mk ho22
                  clear ho22 hb22 s0
                  go_wp2_with fail
                  refine (rname_calls n' w22 hn9').mono ?_
                  rintro e wx ⟨rfl, rfl⟩
                  go_wp2_with fail
                  refine (rhas_calls v22 (lsD dk) _ (segS n') _ HO22.out rfl (by omega)).mono ?_
                  rintro e wx ⟨rfl, rfl⟩
                  rw [segS_list, mem_look]
                  by_cases hlk : (look dk.S (seg n')).isSome = true
                  · rw [hlk]
                    obtain ⟨E3, hE3⟩ : ∃ E3, (dSync dk (seg n')).1 = E3 := ⟨_, rfl⟩
                    obtain ⟨d3, hd3⟩ : ∃ d3, (dSync dk (seg n')).2 = d3 := ⟨_, rfl⟩
                    have HSV : Shut (∀ (w0 : World), LX w0 gl gx M21 dk k (l.take (q + 1)) deadk → Calls Tryz.prog 25 #[gq gx, .string (segS n')] w0 fun e w' => e = .returned (.int .i64 E3) ∧ LXS w0 w' gl gx M21 d3 k (l.take (q + 1)) deadk) := ⟨fun w0 h0 => by
                      have := lx_sync h0 (segS n')
                      rw [segS_list, hE3, hd3] at this
                      exact this⟩
                    have HSS : Shut (sSyn d1 (l.take (q + 1)) = if E3 = 0 then sSyn d3 (((l.take (q + 1))).drop (qs + 1)) else (E3, d3)) := ⟨by
                      rw [HSY.out, HDR.out, ← hE3, ← hd3]
                      exact if_pos hlk⟩
                    have s0 := HL22.out.c0
                    obtain ⟨W2, hW2⟩ : ∃ W2, W2 = w22 := ⟨_, rfl⟩
                    rw [← hW2] at HL22 HK22 s0 ⊢
                    have HF : Shut (Calls Tryz.prog 101 #[.int .i64 (n' : Int)] W2.drew fun e w' => e = .returned (.string (segS n')) ∧ Below W2.heap.size W2.drew w') := ⟨(rname_calls n' W2.drew hn9').mono fun e w' ⟨he, hw⟩ => ⟨he, hw ▸ Below.refl _ _⟩⟩
                    clear hE3 hd3 hlk hW2
                    go_wp2_with fail
                    go_region_held3 (fun w' => w'.cell? ⟨gl, 0, none⟩ = some (gq gx)) (first | exact s0 | exact t0 | exact t1 | go_keep)
                      (first
                        | (go_at_call 101; refine HF.out.mono ?_; rintro e w24 ⟨rfl, hb24⟩; have HL24 := Shut.mk (HL22.out.quiet (below_drewR (w := W2) hb24)); have t0 := HL24.out.c0; have HB24 := Shut.mk (below_drewR (w := W2) hb24); clear hb24)
                        | (go_at_call 25; refine (HSV.out _ HL24.out).mono ?_; rintro e w25 ⟨rfl, M25, hL25, hk25, hs25⟩; have HL25 := Shut.mk hL25; have t1 := HL25.out.c0; have HK25 := Shut.mk (And.intro hk25 hs25); clear hL25 hk25 hs25))
                    clear s0 t0 t1
                    have HKK := Shut.mk (lkstep (lkquiet HK22.out HB24.out) HK25.out)
                    by_cases hE : E3 = 0
                    · have HSS0 := Shut.mk (HSS.out.trans (if_pos hE))
                      clear HSS
                      subst hE
                      have HS2 : Shut (∃ dk deadk, LXS w9 w25 gl gx M9 dk k (l.take (q + 1)) deadk ∧ sSyn d1 (l.take (q + 1)) = sSyn dk (((l.take (q + 1))).drop (qs + 1))) := ⟨d3, deadk, ⟨M25, HL25.out, HKK.out.1, HKK.out.2⟩, HSS0.out⟩
                      go_wp2_with fail
                      go_roundw
                      case rel => exact ⟨qs + 1, by omega, by go_num, HS2⟩
                      case measure => first | (simp [intOf]; done) | (simp [intOf]; omega)
                    · have HSS0 := Shut.mk (HSS.out.trans (if_neg hE))
                      clear HSS
                      obtain ⟨M26, hx26⟩ := HX9.out.step ⟨M25, HL25.out, HKK.out.1, HKK.out.2⟩
                      have HX26 := Shut.mk hx26
                      clear hx26
                      go_wp2_with fail
                      go_ret2
                      rw [gScan_bad2 HSC.out (by rw [HSS0.out]; exact hE), HSS0.out]
                      exact HX26.out.bad E3
                  · have HS2 : Shut (∃ dk deadk, LXS w9 w22 gl gx M9 dk k (l.take (q + 1)) deadk ∧ sSyn d1 (l.take (q + 1)) = sSyn dk (((l.take (q + 1))).drop (qs + 1))) := ⟨dk, deadk, ⟨M21, HL22.out, HK22.out.1, HK22.out.2⟩, by
                      rw [HSY.out, HDR.out]
                      exact if_neg hlk⟩
                    rw [Bool.not_eq_true] at hlk
                    rw [hlk]
                    clear hlk
                    go_wp2_with fail
                    go_roundw
                    case rel => exact ⟨qs + 1, by omega, by go_num, HS2⟩
                    case measure => first | (simp [intOf]; done) | (simp [intOf]; omega)
                · obtain rfl : qs = (q + 1) := by omega
                  have HEND : Shut (sSyn d1 (l.take (q + 1)) = (0, dk)) := ⟨by rw [HSY.out, List.drop_of_length_le (by rw [HNE.out]; exact Nat.le_refl _)]; rfl⟩
                  obtain ⟨M24, hx24⟩ := HX9.out.step ⟨M21, hL21, hk21, hs21⟩
                  have HX24 := Shut.mk hx24
                  clear hL21 hk21 hs21 hx24
                  go_wp2_with fail
                  go_ret2
                  rw [gScan_ok HSC.out (by rw [HEND.out]), HEND.out]
                  exact HX24.out.fin

            · have HG := Shut.mk (gScan_bad HSC.out hE)
              clear hl2
              go_wp2_with fail
              go_ret2
              rw [HG.out]
              exact HX9.out.bad E1
          · have hox9 := fstL_some hf7
            have hdr : (b.drop AT).length = NB - AT := by rw [List.length_drop, ← HNB.out]
            have hxl : 40 + x.length ≤ NB - AT := by
              have h1 := congrArg List.length hox9.2
              rw [List.length_append, frm_length] at h1
              omega
            have HNX : Shut ((frs (done ++ [x])).length = AT + (40 + x.length)) := ⟨by rw [frs_append, frs_one, List.length_append, frm_length, ← HATE.out]⟩
            have HRD2 : Shut (rdL b = (done ++ [x]) ++ rdL (b.drop (frs (done ++ [x])).length)) := ⟨by
              rw [hrd.out, ← HATE.out, rdL_some hf7, List.drop_drop, HNX.out]
              simp⟩
            have hx1 := hox9.1.1
            have hx2 := hox9.1.2
            obtain ⟨XL, hXL⟩ : ∃ XL, XL = x.length := ⟨_, rfl⟩
            have HXL := Shut.mk hXL
            have hox' := hox
            rw [← hXL] at hox hxl hx1 hx2 HNX ⊢
            have HOX := Shut.mk hox'
            have HB8 := Shut.mk (HB7.out.trans (hb8.mono HB7.out.size))
            have hxc : XL ≤ c' := by
              obtain ⟨A9, c9, e9, _, h9, _⟩ := hox.form
              cases e9
              exact h9
            have hsg : g' < w8.heap.size := hox.block_lt rfl
            obtain ⟨vs2, ho7, hrw7, hnw7⟩ := HREC7.out.quiet hb8
            obtain ⟨A7, c7, rfl, _⟩ := ho7.form
            have HGX : Shut ((Value.slice A7 (recsL d (l.take q) ++ done).length c7).ownBlock ≠ some g') := ⟨fun e => by
              obtain ⟨vs3, ho3, _⟩ := HREC7.out
              have := ho3.block_lt e
              omega⟩
            obtain ⟨RN, hRN⟩ : ∃ RN, RN = (recsL d (l.take q) ++ done).length := ⟨_, rfl⟩
            have HRN := Shut.mk hRN
            have hRNb : RN ≤ 30000 * 1000 + 1048576 := by
              rw [hRN, List.length_append]
              omega
            rw [← hRN] at ho7
            have HO7 := Shut.mk ho7
            have HRW7 := Shut.mk hrw7
            have HNW7 := Shut.mk hnw7
            have HRB8 := Shut.mk (HRB7.out.keep hb8)
            rw [← hRN] at HRW7 HNW7 HAR7 HGX ⊢
            have HNEXT : Shut (∀ (o : Obj) (v9 : Value) (w9 : World), Appended (w8.alloc o) w9 27 1 (.slice A7 RN c7) v9 RN 1 vs2 [.slice (some ⟨g', 0, none⟩) XL c'] →
                Below w.heap.size w w9 ∧ RdB w9 (some ⟨g5, 0, none⟩) b ∧ Recs w9 w.heap.size (fun x => w.heap.size ≤ x) v9 (recsL d (l.take q) ++ (done ++ [x])) ∧ ∀ p, v9.ownBlock = some p → ∀ a, some (⟨g5, 0, none⟩ : Addr) = some a → a.block ≠ p) := ⟨by
              intro o v9 w9 hap
              have hkb := kb_appended hap
              have hL : ∀ p, p ∈ (Value.slice A7 RN c7).ownBlock.toList → (Value.slice A7 RN c7).ownBlock = some p := fun p hp => by simpa using hp
              have hap' := hap
              rw [HRN.out, HXL.out] at hap'
              refine ⟨hkb.below HB8.out (fun p hp => HNW7.out p (hL p hp)) HB8.out.size, rdB_kept HRB8.out hkb (fun a ha hp => HAR7.out a.block (hL _ hp) a ha rfl), ?_, fun p hp a ha e => ?_⟩
              · rw [← List.append_assoc]
                have h1 := HRW7.out
                have h2 := HNW7.out
                have h3 := HGX.out
                rw [HRN.out] at h1 h2 h3
                have hown2 := HO7.out
                rw [HRN.out] at hown2
                refine Recs.append hown2 h1 h2 HB8.out.size hap' (by rw [← HXL.out]; exact hxc) (rdb_own _ HOX.out) (fun a ha => ?_)
                cases ha
                exact ⟨by show w.heap.size ≤ g'; omega, hsg, h3⟩
              · rcases hap.lies with h | h
                · exact HAR7.out p (h ▸ hp) a ha e
                · rw [hp] at h
                  injection h with h
                  rw [World.size_alloc] at h
                  cases ha
                  obtain ⟨a6, e6, hc6⟩ := HRB8.out 0 (by rw [← HNB.out]; omega)
                  cases e6
                  have := World.block_lt_of_cell? w8 _ hc6
                  rw [block_of_add] at this
                  omega⟩
            clear hrd ho7 hrw7 hnw7 hox hox' hb8 hox9 hdr hXL hRN hf7
            go_wp2_with (at_builtin; refine wpList_append _ rfl _ _ _ rfl 27 i0 _ 1 24 Tryz.underlying39 hi hz0 hz1 hz2 rfl (by decide) _ _ _ rfl (HO7.out.alloc _) _ 1 1 _ rfl (by rfl) (rd_new _ _ 27) (by simp [Value.oneCell']) (by simp only [maxLen]; omega) (by omega) ?_; intro v9 w9 hap9)
            obtain ⟨hb9, hr9, hrec9, har9⟩ := HNEXT.out _ _ _ hap9
            have HF9 := Shut.mk (And.intro hb9 (And.intro hr9 (And.intro hrec9 har9)))
            clear hb9 hr9 hrec9 har9 hap9
            go_wp2_with fail
            go_roundw
            case rel =>
              refine ⟨done ++ [x], by rw [HNX.out]; go_num, HRD2, by rw [HNX.out]; omega, by rw [HNX.out, List.length_append, List.length_singleton]; omega, HF9.out.1, ⟨HF9.out.2.1⟩, ⟨HF9.out.2.2.1⟩, ⟨HF9.out.2.2.2⟩⟩
            case measure => first | (simp [intOf]; done) | (simp [intOf]; omega)
        · obtain rfl : AT = NB := by omega
          have hdone : rdL b = done := by
            rw [hrd.out, ← HATE.out, List.drop_of_length_le (by rw [← HNB.out]; exact Nat.le_refl _), rdL_nil, List.append_nil]
          have HWN : Shut (whole d n) := ⟨by unfold whole wl; rw [← HBN.out, hdone, ← HATE.out, HNB.out]⟩
          have HEQ2 : Shut (recsL d (l.take q) ++ done = recsL d (l.take (q + 1))) := ⟨by rw [HTK.out, hdone]⟩
          have hcl : (recsL d (l.take (q + 1))).length ≤ 30000 * (q + 1) := by
            rw [HTK.out, List.length_append]
            omega
          clear hrd hdone hat
          go_wp2_with fail
          go_roundw
          case rel =>
            refine ⟨q + 1, by omega, by go_num, HB7.out, fun j hj hjk => ?_, ⟨by rw [← HEQ2.out]; exact HREC7.out⟩, hcl⟩
            by_cases hjk2 : j < q
            · exact HWK.out j hj hjk2
            · obtain rfl : j = q := by omega
              rw [← HNK.out]
              exact HWN.out
          case measure => first | (simp [intOf]; done) | (simp [intOf]; omega)
    · skip
      obtain rfl : q = N := by omega
      have HNE : Shut (l.length = q) := ⟨HN.out.symm⟩
      have HTE : Shut (l.take q = l) := ⟨List.take_of_length_le (by rw [← HN.out]; exact Nat.le_refl _)⟩
      have HSC2 : Shut (sScn d [] l = (0, l, recsL d l, d)) := ⟨sScn_all d l (fun j hj => hwk j hj (by rw [HN.out]; exact hj))⟩
      have hrec0 := HREC.out
      rw [HTE.out] at hrec0 ⊢
      have HX1 : Shut (Xst w wr.heap.size wr gl gx M M d k l dead (.slice Av (recsL d l).length cv) (recsL d l)) := ⟨⟨(HL.out.quiet hbr).mono (by omega), Kb.of_below hbr M, fun x hx => .inl hx, hbr.size, Nat.le_refl _, HL.out.lt, hrec0.bound, fun g hg => by
        obtain ⟨vs, hov, _⟩ := hrec0
        exact hov.block_lt hg⟩⟩
      clear hrec0 hbr hwk
      obtain ⟨w7, hw7⟩ : ∃ x, x = wr := ⟨_, rfl⟩
      subst hw7
      -- the syncs
      obtain ⟨A20, c20, q20, hr20, hlc20, hA20⟩ := HX1.out.lx.row
      rw [HNE.out] at q20 hlc20
      have HR20 := Shut.mk hr20
      have HA20 := Shut.mk hA20
      clear hr20 hA20
      go_wp2_with fail
      go_loopw [71] (fun i wr => ∃ qs : Nat, qs ≤ q ∧ i = .int .i64 qs ∧ Shut (∃ dk deadk, LXS w7 wr gl gx M dk k l deadk ∧ sSyn d l = sSyn dk ((l).drop qs))) (fun i _ => q - (intOf i).toNat)
      case atStart => exact ⟨0, Nat.zero_le _, rfl, ⟨d, dead, LXS.same HX1.out.lx, rfl⟩⟩
      case round =>
        obtain ⟨qs, hk, rfl, HST⟩ := hrel
        obtain ⟨dk, deadk, ⟨M21, hL21, hk21, hs21⟩, hsy⟩ := HST.out
        have HSY := Shut.mk hsy
        clear HST hsy
        by_cases hlt : qs < q
        · have hql : qs < (l).length := by rw [HNE.out]; exact hlt
          obtain ⟨n', hn'⟩ : ∃ n', n' = (l)[qs] := ⟨_, rfl⟩
          have hn9' : n' ≤ 99999999 := by rw [hn']; exact HLL.out _ (List.getElem_mem _)
          have hne' : (l) ≠ [] := fun e => by rw [e] at hql; simp at hql
          obtain ⟨a20, ha20, hc20⟩ := HR20.out (its_ne hne')
          have hA20' := HA20.out a20 ha20 hne'
          subst ha20
          have c0 := hc20 qs _ (its_get hql)
          rw [← hn'] at c0
          have c2 : wr.cell? (a20.add qs) = some (.int .i64 (n' : Int)) := (World.cell?_of_block (w := w7) (hk21.block _ (World.block_lt_of_cell? w7 _ c0) (fun hx => by
            rw [block_of_add] at hx
            exact hA20'.1 hx))).trans c0
          have HDR : Shut ((l).drop qs = n' :: (l).drop (qs + 1)) := ⟨by rw [List.drop_eq_getElem_cons hql, hn']⟩
          have HL21 := Shut.mk hL21
          have HKS21 := Shut.mk (And.intro hk21 hs21)
          have hkI : (qs : Int) < (q : Int) := by omega
          have s0 := hL21.c0
          have HLS := Shut.mk (lx_list hL21)
          have hlen21 := lsD_len hL21
          clear hc20 c0 hn' hL21 hk21 hs21 hql hne' hA20'
          go_wp2_with fail
          refine HLS.out.mono ?_
          rintro e w22 ⟨v22, rfl, ho22, hb22, _⟩
          have HL22 := Shut.mk (HL21.out.quiet hb22)
          have HK22 := Shut.mk (lkquiet HKS21.out hb22)
          have HO22 := Shut.mk ho22
          clear ho22 hb22 s0
          go_wp2_with fail
          refine (rname_calls n' w22 hn9').mono ?_
          rintro e wx ⟨rfl, rfl⟩
          go_wp2_with fail
          refine (rhas_calls v22 (lsD dk) _ (segS n') _ HO22.out rfl (by omega)).mono ?_
          rintro e wx ⟨rfl, rfl⟩
          rw [segS_list, mem_look]
          by_cases hlk : (look dk.S (seg n')).isSome = true
          · rw [hlk]
            obtain ⟨E3, hE3⟩ : ∃ E3, (dSync dk (seg n')).1 = E3 := ⟨_, rfl⟩
            obtain ⟨d3, hd3⟩ : ∃ d3, (dSync dk (seg n')).2 = d3 := ⟨_, rfl⟩
            have HSV : Shut (∀ (w0 : World), LX w0 gl gx M21 dk k l deadk → Calls Tryz.prog 25 #[gq gx, .string (segS n')] w0 fun e w' => e = .returned (.int .i64 E3) ∧ LXS w0 w' gl gx M21 d3 k l deadk) := ⟨fun w0 h0 => by
              have := lx_sync h0 (segS n')
              rw [segS_list, hE3, hd3] at this
              exact this⟩
            have HSS : Shut (sSyn d l = if E3 = 0 then sSyn d3 ((l).drop (qs + 1)) else (E3, d3)) := ⟨by
              rw [HSY.out, HDR.out, ← hE3, ← hd3]
              exact if_pos hlk⟩
            have s0 := HL22.out.c0
            obtain ⟨W2, hW2⟩ : ∃ W2, W2 = w22 := ⟨_, rfl⟩
            rw [← hW2] at HL22 HK22 s0 ⊢
            have HF : Shut (Calls Tryz.prog 101 #[.int .i64 (n' : Int)] W2.drew fun e w' => e = .returned (.string (segS n')) ∧ Below W2.heap.size W2.drew w') := ⟨(rname_calls n' W2.drew hn9').mono fun e w' ⟨he, hw⟩ => ⟨he, hw ▸ Below.refl _ _⟩⟩
            clear hE3 hd3 hlk hW2
            go_wp2_with fail
            go_region_held3 (fun w' => w'.cell? ⟨gl, 0, none⟩ = some (gq gx)) (first | exact s0 | exact t0 | exact t1 | go_keep)
              (first
                | (go_at_call 101; refine HF.out.mono ?_; rintro e w24 ⟨rfl, hb24⟩; have HL24 := Shut.mk (HL22.out.quiet (below_drewR (w := W2) hb24)); have t0 := HL24.out.c0; have HB24 := Shut.mk (below_drewR (w := W2) hb24); clear hb24)
                | (go_at_call 25; refine (HSV.out _ HL24.out).mono ?_; rintro e w25 ⟨rfl, M25, hL25, hk25, hs25⟩; have HL25 := Shut.mk hL25; have t1 := HL25.out.c0; have HK25 := Shut.mk (And.intro hk25 hs25); clear hL25 hk25 hs25))
            clear s0 t0 t1
            have HKK := Shut.mk (lkstep (lkquiet HK22.out HB24.out) HK25.out)
            by_cases hE : E3 = 0
            · have HSS0 := Shut.mk (HSS.out.trans (if_pos hE))
              clear HSS
              subst hE
              have HS2 : Shut (∃ dk deadk, LXS w7 w25 gl gx M dk k l deadk ∧ sSyn d l = sSyn dk ((l).drop (qs + 1))) := ⟨d3, deadk, ⟨M25, HL25.out, HKK.out.1, HKK.out.2⟩, HSS0.out⟩
              go_wp2_with fail
              go_roundw
              case rel => exact ⟨qs + 1, by omega, by go_num, HS2⟩
              case measure => first | (simp [intOf]; done) | (simp [intOf]; omega)
            · have HSS0 := Shut.mk (HSS.out.trans (if_neg hE))
              clear HSS
              obtain ⟨M26, hx26⟩ := HX1.out.step ⟨M25, HL25.out, HKK.out.1, HKK.out.2⟩
              have HX26 := Shut.mk hx26
              clear hx26
              go_wp2_with fail
              go_ret2
              rw [gScan_bad2 HSC2.out (by rw [HSS0.out]; exact hE), HSS0.out]
              exact HX26.out.bad E3
          · have HS2 : Shut (∃ dk deadk, LXS w7 w22 gl gx M dk k l deadk ∧ sSyn d l = sSyn dk ((l).drop (qs + 1))) := ⟨dk, deadk, ⟨M21, HL22.out, HK22.out.1, HK22.out.2⟩, by
              rw [HSY.out, HDR.out]
              exact if_neg hlk⟩
            rw [Bool.not_eq_true] at hlk
            rw [hlk]
            clear hlk
            go_wp2_with fail
            go_roundw
            case rel => exact ⟨qs + 1, by omega, by go_num, HS2⟩
            case measure => first | (simp [intOf]; done) | (simp [intOf]; omega)
        · obtain rfl : qs = q := by omega
          have HEND : Shut (sSyn d l = (0, dk)) := ⟨by rw [HSY.out, List.drop_of_length_le (by rw [HNE.out]; exact Nat.le_refl _)]; rfl⟩
          obtain ⟨M24, hx24⟩ := HX1.out.step ⟨M21, hL21, hk21, hs21⟩
          have HX24 := Shut.mk hx24
          clear hL21 hk21 hs21 hx24
          go_wp2_with fail
          go_ret2
          rw [gScan_ok HSC2.out (by rw [HEND.out]), HEND.out]
          exact HX24.out.fin
end
end Go.Proofs.YtmlfeljhojmbbaaGreatDoor

namespace Go.Proofs.YtmlfeljhojmbbaaGreatDoor
open Go.RowKit Go.Maps Go.Sort
set_option linter.unusedSimpArgs false
set_option linter.unusedVariables false
set_option maxRecDepth 100000

def RTo (w w' : World) (gx : Nat) (G : List Nat) (R : Int × List (List UInt8) × Ds) (k : Nat) (e : Ending) : Prop :=
  ∃ p v, e = .returned (.tuple #[p, v, .int .i64 R.1]) ∧ ((R.1 = 0 ∧ ∃ gl, p = gq gl) ∨ (R.1 ≠ 0 ∧ p = .pointer none)) ∧ Recs w' w.heap.size (fun x => w.heap.size ≤ x) v R.2.1 ∧ NStp w w' gx G R.2.2 k
/-- the document's disk and its log, while Open goes on -/
structure Nst (w w2 : World) (gx : Nat) (G G2 : List Nat) (d : Ds) (k : Nat) : Prop where
  nd : ND w2 gx G2 d k
  kb : Kb w w2 G
  sub : ∀ x ∈ G2, x ∈ G ∨ w.heap.size ≤ x
structure Rst (w w2 : World) (gl gx : Nat) (G M : List Nat) (d : Ds) (k : Nat) (l : List Nat) (dead : Bool) : Prop where
  lx : LX w2 gl gx M d k l dead
  kb : Kb w w2 G
  sub : ∀ x ∈ M, x ∈ G ∨ w.heap.size ≤ x
section
variable {w w2 w3 : World} {gl gx : Nat} {G G2 M : List Nat} {d d' : Ds} {k k' : Nat} {l l' : List Nat} {dead dead' : Bool}
theorem Nst.quiet (h : Nst w w2 gx G G2 d k) (hb : Below w2.heap.size w2 w3) : Nst w w3 gx G G2 d k := ⟨h.nd.quiet hb, h.kb.below_ hb, h.sub⟩
theorem Nst.step (h : Nst w w2 gx G G2 d k) (hst : NStp w2 w3 gx G2 d' k') : ∃ G3, Nst w w3 gx G G3 d' k' := by
  obtain ⟨G3, g1, g2, g3⟩ := hst
  refine ⟨G3, g1, h.kb.trans g2 h.sub, fun x hx => ?_⟩
  rcases g3 x hx with h1 | h1
  · exact h.sub x h1
  · exact .inr (Nat.le_trans h.kb.size h1)
theorem Nst.bad (h : Nst w w2 gx G G2 d k) {E : Int} (hE : ¬ E = 0) {j : Nat} (hj : j ≤ k) : RTo w w2 gx G (E, [], d) j (.returned (.tuple #[.pointer none, .slice none 0 0, .int .i64 E])) :=
  ⟨_, _, rfl, .inr ⟨hE, rfl⟩, Recs.nil _ _ _, G2, h.nd.mono hj, h.kb, h.sub⟩
theorem Nst.box (h : Nst w w2 gx G G2 d k) : Rst w (w2.alloc (.cells #[gq gx, .slice none 0 0, .bool false] 119)) w2.heap.size gx G (w2.heap.size :: G2) d k [] false := by
  have hb : Below w2.heap.size w2 (w2.alloc (.cells #[gq gx, .slice none 0 0, .bool false] 119)) := (Below.refl _ w2).alloc (Nat.le_refl _) _
  refine ⟨⟨⟨G2, none, 0, h.nd.quiet hb, Blk.new w2 _ _, fun hne => absurd rfl hne, Nat.le_refl _, fun x hx => ⟨List.mem_cons_of_mem _ hx, fun e => ?_⟩, fun a ha => by cases ha⟩, List.mem_cons_self, fun x hx => ?_⟩, h.kb.below_ hb, fun x hx => ?_⟩
  · have := h.nd.lt x hx
    omega
  · rw [World.size_alloc]
    rcases List.mem_cons.1 hx with h1 | h1
    · omega
    · have := h.nd.lt x h1
      omega
  · rcases List.mem_cons.1 hx with h1 | h1
    · right
      have := h.kb.size
      omega
    · exact h.sub x h1
theorem Rst.quiet (h : Rst w w2 gl gx G M d k l dead) (hb : Below w2.heap.size w2 w3) : Rst w w3 gl gx G M d k l dead := ⟨h.lx.quiet hb, h.kb.below_ hb, h.sub⟩
theorem Rst.mono (h : Rst w w2 gl gx G M d k l dead) {j : Nat} (hj : j ≤ k) : Rst w w2 gl gx G M d j l dead := ⟨h.lx.mono hj, h.kb, h.sub⟩
theorem Rst.step (h : Rst w w2 gl gx G M d k l dead) (hst : LXS w2 w3 gl gx M d' k' l' dead') : ∃ M3, Rst w w3 gl gx G M3 d' k' l' dead' := by
  obtain ⟨M3, g1, g2, g3⟩ := hst
  refine ⟨M3, g1, h.kb.trans g2 h.sub, fun x hx => ?_⟩
  rcases g3 x hx with h1 | h1
  · exact h.sub x h1
  · exact .inr (Nat.le_trans h.kb.size h1)
theorem Rst.nstp (h : Rst w w2 gl gx G M d k l dead) {j : Nat} (hj : j ≤ k) : NStp w w2 gx G d j := by
  obtain ⟨⟨⟨G2, A, c, h1, h2, h3, h4, h5, h6⟩, h7, h8⟩, hk, hs⟩ := h
  exact ⟨G2, h1.mono hj, hk, fun x hx => hs x (h5 x hx).1⟩
theorem Rst.bad (h : Rst w w2 gl gx G M d k l dead) {E : Int} (hE : ¬ E = 0) {j : Nat} (hj : j ≤ k) : RTo w w2 gx G (E, [], d) j (.returned (.tuple #[.pointer none, .slice none 0 0, .int .i64 E])) :=
  ⟨_, _, rfl, .inr ⟨hE, rfl⟩, Recs.nil _ _ _, h.nstp hj⟩
theorem Rst.fin (h : Rst w w2 gl gx G M d k l dead) {v : Value} {rs : List (List UInt8)} (hr : Recs w2 w.heap.size (fun x => w.heap.size ≤ x) v rs) (g : Nat) {j : Nat} (hj : j ≤ k) : RTo w w2 gx G (0, rs, d) j (.returned (.tuple #[gq g, v, .int .i64 0])) :=
  ⟨_, _, rfl, .inl ⟨rfl, g, rfl⟩, hr, h.nstp hj⟩
theorem nd_len (h : ND w gx G d k) : (lsD d).length ≤ 850000 := by
  have h1 : (lsD d).length = d.S.length := by
    unfold lsD
    simp
  have := h.dv.len
  omega
theorem nd_man (h : ND w gx G d k) {b : List UInt8} {sy : Nat} (hl : look d.S manN = some (b, sy)) : Calls Tryz.prog 76 #[gq gx, .string ⟨#[109, 97, 110, 105, 102, 101, 115, 116]⟩] w fun e w' =>
    ∃ A c, e = .returned (.tuple #[.slice A b.length c, .int .i64 0]) ∧ Own w' 5 1 (.slice A b.length c) b.length (bys b) ∧ Below w.heap.size w w' := by
  refine (nd_read h ⟨#[109, 97, 110, 105, 102, 101, 115, 116]⟩).mono ?_
  rintro e w' ⟨A, c, he, ho, hb⟩
  rw [show look d.S (ByteArray.mk #[109, 97, 110, 105, 102, 101, 115, 116]).data.toList = look d.S manN from rfl, hl] at he ho
  exact ⟨A, c, he, ho, hb⟩
theorem own_addr {e size n m c : Nat} {A : Option Addr} {xs : List Value} (h : Own w e size (.slice A n c) m xs) : ∀ a, A = some a → ∃ g o, a = ⟨g, o, none⟩ := by
  intro a ha
  subst ha
  obtain ⟨_, h⟩ := h
  rcases h with ⟨h1, _⟩ | ⟨g, _, _, h1, _⟩
  · cases h1
  · cases h1
    exact ⟨_, _, rfl⟩
theorem mineL_iff {f : List UInt8} {ss : List Nat} : f ∈ mineL ss ↔ f ∈ ss.map seg ∨ f = manN := by
  unfold mineL
  rw [List.mem_append, List.mem_singleton]
end
section
variable {w w' : World} {gx : Nat} {G : List Nat} {d : Ds} {k : Nat}
set_option maxHeartbeats 8000000 in
theorem ropen_calls (h : ND w gx G d (k + 2)) : Calls Tryz.prog 38 #[gq gx] w fun e w' => RTo w w' gx G (gOpen d) k e := by
  have hnil := fun (W : World) (g n c : Nat) => Lib.run_eql_slice_nil (P := Tryz.prog) W 40 3 (some ⟨g, 0, none⟩) n c 0 0 Tryz.underlying40
  have hnil2 := fun (W : World) => Lib.run_eql_slice_nil (P := Tryz.prog) W 40 3 none 0 0 0 0 Tryz.underlying40
  have HLS := Shut.mk (nd_list h)
  have hlen := nd_len h
  have HN0 := Shut.mk (Nst.mk h (Kb.refl w G) (fun x hx => .inl hx))
  clear h
  go_enter Tryz.func38, Tryz.ntmps38
  go_wp2_with fail
  refine HLS.out.mono ?_
  rintro e w1 ⟨v1, rfl, ho1, hb1, _⟩
  have HN1 := Shut.mk (HN0.out.quiet hb1)
  have HO1 := Shut.mk ho1
  clear ho1 hb1
  go_wp2_with fail
  refine (rhas_calls v1 (lsD d) _ ⟨#[109, 97, 110, 105, 102, 101, 115, 116, 46, 110, 101, 119]⟩ _ HO1.out rfl (by omega)).mono ?_
  rintro e w2 ⟨rfl, rfl⟩
  rw [mem_look, show (ByteArray.mk #[109, 97, 110, 105, 102, 101, 115, 116, 46, 110, 101, 119]).data.toList = freshN from rfl]
  by_cases hfr : (look d.S freshN).isSome = true
  · rw [hfr]
    have hrf := nd_remove HN1.out.nd ⟨#[109, 97, 110, 105, 102, 101, 115, 116, 46, 110, 101, 119]⟩
    rw [show (ByteArray.mk #[109, 97, 110, 105, 102, 101, 115, 116, 46, 110, 101, 119]).data.toList = freshN from rfl] at hrf
    obtain ⟨E4, hE4⟩ : ∃ E4, E4 = (dDel d freshN).1 := ⟨_, rfl⟩
    obtain ⟨d4, hd4⟩ : ∃ d4, d4 = (dDel d freshN).2 := ⟨_, rfl⟩
    rw [← hE4, ← hd4] at hrf
    have HRF := Shut.mk hrf
    have hgo : gOpen d = if E4 = 0 then gOpen1 d4 else (E4, [], d4) := by
      rw [hE4, hd4]
      exact if_pos hfr
    clear hrf hE4 hd4 hfr
    by_cases hE : E4 = 0
    · have HGO := Shut.mk (hgo.trans (if_pos hE))
      clear hgo
      subst hE
      go_wp2_with fail
      refine HRF.out.mono ?_
      rintro e w4 ⟨rfl, hst⟩
      obtain ⟨G4, hs4⟩ := HN1.out.step hst
      have HS4 := Shut.mk hs4
      clear hst hs4
      obtain ⟨GL, hGL⟩ : ∃ GL, GL = w4.heap.size := ⟨_, rfl⟩
      obtain ⟨W2, hW2⟩ : ∃ W2, w4.alloc (.cells #[gq gx, .slice none 0 0, .bool false] 119) = W2 := ⟨_, rfl⟩
      have hbx := HS4.out.box
      rw [hW2, ← hGL] at hbx
      obtain ⟨H0, hH0⟩ : ∃ H0, H0 = GL :: G4 := ⟨_, rfl⟩
      rw [← hH0] at hbx
      have HB2 := Shut.mk hbx
      clear hbx hH0
      have HLS2 := Shut.mk (lx_list HB2.out.lx)
      have hlen2 := lsD_len HB2.out.lx
      have s0 := HB2.out.lx.c0
      go_wp2_with fail
      rw [← hGL]
      clear hW2 hGL
      refine HLS2.out.mono ?_
      rintro e w5 ⟨v5, rfl, ho5, hb5, _⟩
      have HS5 := Shut.mk (HB2.out.quiet hb5)
      have HO5 := Shut.mk ho5
      clear ho5 hb5 s0
      go_wp2_with fail
      refine (rhas_calls v5 (lsD d4) _ ⟨#[109, 97, 110, 105, 102, 101, 115, 116]⟩ _ HO5.out rfl (by omega)).mono ?_
      rintro e w6 ⟨rfl, rfl⟩
      rw [mem_look, show (ByteArray.mk #[109, 97, 110, 105, 102, 101, 115, 116]).data.toList = manN from rfl]
      cases hlk : look d4.S manN with
      | none =>
        rw [show (none : Option (List UInt8 × Nat)).isSome = false from rfl]
        obtain ⟨LN, hLN⟩ : ∃ LN, LN = (lsD d4).length := ⟨_, rfl⟩
        have hls6 := lx_list HS5.out.lx
        rw [← hLN] at hls6
        have HLN := Shut.mk hLN
        have HLS6 := Shut.mk hls6
        have s0 := HS5.out.lx.c0
        clear hls6 hLN
        go_wp2_with fail
        refine HLS6.out.mono ?_
        rintro e w6 ⟨v6, rfl, ho6, hb6, _⟩
        obtain ⟨A6, c6, rfl, _⟩ := ho6.form
        have HS6 := Shut.mk (HS5.out.quiet hb6)
        clear ho6 hb6 s0
        by_cases h0 : LN = 0
        · subst h0
          have HG1 := Shut.mk (HGO.out.trans (gOpen1_new hlk (List.eq_nil_of_length_eq_zero HLN.out.symm)))
          have hb7 : Below w6.heap.size w6 (w6.alloc (.cells #[.int .i64 1] 3)) := (Below.refl _ w6).alloc (Nat.le_refl _) _
          have hs7 := HS6.out.quiet hb7
          have hlt6 := fun x hx => HS6.out.lx.lt x hx
          obtain ⟨W7, hW7⟩ : ∃ W7, w6.alloc (.cells #[.int .i64 1] 3) = W7 := ⟨_, rfl⟩
          have hrd7 : Rd (w6.alloc (.cells #[.int .i64 1] 3)) (some ⟨w6.heap.size, 0, none⟩) (its [1]) := rd_new w6 #[.int .i64 1] 3
          have hsz7 : W7.heap.size = w6.heap.size + 1 := by rw [← hW7, World.size_alloc]
          rw [hW7] at hs7 hrd7
          obtain ⟨hs8, t8, fr8, v8, q8⟩ := hs7.lx.setl (A := some ⟨w6.heap.size, 0, none⟩) (c := 1) (l' := [1]) hrd7 (Nat.le_refl _) (fun a ha _ => by
            cases ha
            exact ⟨fun hx => Nat.lt_irrefl _ (hlt6 _ hx), by simp only [hsz7]; omega⟩)
          obtain ⟨M8, hx8⟩ := hs7.step hs8
          simp only [List.length_cons, List.length_nil, Nat.zero_add] at t8 hx8
          obtain ⟨W8, hW8⟩ : ∃ W8, W7.setCell ⟨GL, 1, none⟩ (.slice (some ⟨w6.heap.size, 0, none⟩) 1 1) = W8 := ⟨_, rfl⟩
          have hrd8 : Rd W8 (some ⟨w6.heap.size, 0, none⟩) (its [1]) := by
            rw [← hW8]
            refine rd_kept hrd7 ((Kb.refl W7 [GL]).setCell (p := ⟨GL, 1, none⟩) (by simp) _) (fun a ha _ hx => ?_)
            cases ha
            have h1 := hlt6 _ HS6.out.lx.gl
            have h2 : w6.heap.size = GL := by simpa using hx
            omega
          rw [hW8] at t8 hx8
          have HX8 := Shut.mk hx8
          have HMAN := rman_calls hx8.lx (some ⟨w6.heap.size, 0, none⟩) 1 1 [1] hrd8 rfl (Nat.le_refl _) (by decide) (by decide)
          obtain ⟨E8, hE8⟩ : ∃ E8, E8 = (dWr d4 [1]).1 := ⟨_, rfl⟩
          obtain ⟨d8, hd8⟩ : ∃ d8, d8 = (dWr d4 [1]).2 := ⟨_, rfl⟩
          rw [← hE8, ← hd8] at HMAN HG1
          have HMAN := Shut.mk HMAN
          clear hs7 hs8 hx8 hrd7 hrd8 hlt6 hsz7 hb7 hE8 hd8
          by_cases hE8 : E8 = 0
          · subst hE8
            go_wp2_with fail
            refine HMAN.out.mono ?_
            rintro e w9 ⟨rfl, dead9, hst9⟩
            obtain ⟨M9, hx9⟩ := HX8.out.step hst9
            have HX9 := Shut.mk hx9
            clear hst9 hx9
            go_wp2_with fail
            go_ret3
            rw [HG1.out]
            exact HX9.out.fin (Recs.nil _ _ _) GL (Nat.le_refl _)
          · go_wp2_with fail
            refine HMAN.out.mono ?_
            rintro e w9 ⟨rfl, dead9, hst9⟩
            obtain ⟨M9, hx9⟩ := HX8.out.step hst9
            have HX9 := Shut.mk hx9
            clear hst9 hx9
            go_wp2_with fail
            go_ret3
            rw [HG1.out]
            exact HX9.out.bad hE8 (Nat.le_refl _)
        · have HG1 := Shut.mk (HGO.out.trans (gOpen1_odd hlk (fun e => h0 (by rw [HLN.out, e]; rfl))))
          have hLI : (0 : Int) < (LN : Int) := by omega
          go_wp2_with fail
          go_ret3
          rw [HG1.out]
          exact HS6.out.bad (by decide) (by omega)
      | some p =>
        obtain ⟨b, sy⟩ := p
        rw [show (some (b, sy) : Option (List UInt8 × Nat)).isSome = true from rfl]
        obtain ⟨Gr, hDr, _⟩ := HS5.out.lx.disk
        have hmr := nd_man hDr hlk
        obtain ⟨NB, hNB⟩ : ∃ NB, NB = b.length := ⟨_, rfl⟩
        have hblen : NB ≤ 1048576 := by rw [hNB]; exact (hDr.dv.lk hlk).2.1
        rw [← hNB] at hmr
        have HRM4 := Shut.mk hmr
        have HNB := Shut.mk hNB
        clear hDr hmr hNB
        go_wp2_with fail
        refine HRM4.out.mono ?_
        rintro e w5 ⟨A5, c5, rfl, ho5, hb5⟩
        have HS6 := Shut.mk (HS5.out.quiet hb5)
        have hac5 : NB ≤ c5 := by
          obtain ⟨A6, c6, e6, _, h6, _⟩ := ho5.form
          cases e6
          exact h6
        have HPA := Shut.mk (rnum_calls A5 c5 NB b w5 (own_addr ho5) (rdb_own _ ho5) HNB.out.symm hac5 hblen)
        clear ho5 hb5
        go_wp2_with fail
        refine HPA.out.mono ?_
        rintro e w6 ⟨hb6, hor⟩
        have HS7 := Shut.mk (HS6.out.quiet hb6)
        have hs56 := hb6.size
        rcases hor with ⟨hp, rfl⟩ | ⟨ss, g6, c6, hp, rfl, ho6, hg6⟩
        · have HG1 := Shut.mk (HGO.out.trans (gOpen1_bad hlk hp))
          obtain ⟨hs8, t8, fr8, v8, q8⟩ := HS7.out.lx.setl (A := none) (c := 0) (l' := []) (fun hne => absurd rfl hne) (Nat.le_refl _) (fun a ha => by cases ha)
          obtain ⟨M8, hx8⟩ := HS7.out.step hs8
          have HX8 := Shut.mk hx8
          simp only [List.length_nil] at t8 HX8
          clear hs8 hx8 hb6 hp
          go_wp2_with fail
          go_ret3
          rw [HG1.out]
          exact HX8.out.bad (by decide) (by omega)
        · have hgo2 := HGO.out.trans (gOpen1_rmv hlk hp)
          obtain ⟨hgood, hssne, hss5⟩ := prsL_some hp
          obtain ⟨N, hN⟩ : ∃ N, N = ss.length := ⟨_, rfl⟩
          have hpos : 1 ≤ N := by rw [hN]; exact List.length_pos_iff.2 hssne
          have hrd6 : Rd w6 (some ⟨g6, 0, none⟩) (its ss) := by
            obtain ⟨A8, c8, e8, hr8, _⟩ := ho6.form
            cases e8
            exact hr8
          have hcap6 : ss.length ≤ c6 := by
            obtain ⟨A8, c8, e8, _, h8, _⟩ := ho6.form
            cases e8
            exact h8
          have hg6lt := ho6.block_lt (g := g6) rfl
          obtain ⟨hs8, t8, fr8, v8, q8⟩ := HS7.out.lx.setl hrd6 hcap6 (fun a ha _ => by
            cases ha
            exact ⟨fun hx => by have := HS6.out.lx.lt _ hx; simp only at this; omega, hg6lt⟩)
          obtain ⟨M8, hx8⟩ := HS7.out.step hs8
          rw [← hN] at hx8 t8 hss5 hcap6 ⊢
          obtain ⟨W8, hW8⟩ : ∃ W8, w6.setCell ⟨GL, 1, none⟩ (.slice (some ⟨g6, 0, none⟩) N c6) = W8 := ⟨_, rfl⟩
          rw [hW8] at hx8 t8
          have HX8 := Shut.mk hx8
          have HN := Shut.mk hN
          have HGO2 := Shut.mk hgo2
          have HGD := Shut.mk (And.intro hgood hssne)
          have HLE : Shut (∀ n ∈ ss, n ≤ 99999999) := ⟨fun n hn => (hgood.2 n hn).2⟩
          obtain ⟨NL, hNL⟩ : ∃ NL, NL = (lsD d4).length := ⟨_, rfl⟩
          have hls9 := lx_list hx8.lx
          rw [← hNL] at hls9
          have HLS9 := Shut.mk hls9
          have HNL := Shut.mk hNL
          have hNLb : NL ≤ 850000 := by rw [hNL]; exact hlen2
          clear hgo2 hgood hssne hN hx8 hs8 ho6 hrd6 hb6 hp hg6 hg6lt hs56 hls9 hNL
          go_wp2_with fail
          refine HLS9.out.mono ?_
          rintro e w10 ⟨v10, rfl, ho10, hb10, hn10⟩
          obtain ⟨A10, c10, rfl, hr10, hlc10, hcm10, hob10, _⟩ := ho10.form
          have HA10 : Shut (∀ a, A10 = some a → W8.heap.size ≤ a.block) := ⟨fun a ha => hn10 a.block (hob10.trans (by rw [ha]; rfl))⟩
          have HR10 := Shut.mk hr10
          have HX10 := Shut.mk (HX8.out.quiet hb10)
          clear ho10 hb10 hn10 hr10 hob10 hlc10 hcm10 q8 fr8 t8 hW8
          go_wp2_with fail
          go_loopw [66] (fun i wr => ∃ q : Nat, q ≤ NL ∧ i = .int .i64 q ∧ Shut (∃ dk deadk, LXS w10 wr GL gx M8 dk (k + 2) ss deadk ∧ sRmv (mineL ss) d4 (lsD d4) = sRmv (mineL ss) dk ((lsD d4).drop q))) (fun i _ => NL - (intOf i).toNat)
          case atStart => exact ⟨0, Nat.zero_le _, rfl, ⟨d4, _, LXS.same HX10.out.lx, rfl⟩⟩
          case round =>
            obtain ⟨q, hk, rfl, HST⟩ := hrel
            obtain ⟨dk, deadk, hst, hsr⟩ := HST.out
            have HSR := Shut.mk hsr
            clear HST hsr
            by_cases hlt : q < NL
            · have hkl : q < (lsD d4).length := by rw [← HNL.out]; exact hlt
              obtain ⟨M11, hL11, hk11, hs11⟩ := hst
              obtain ⟨f, hf⟩ : ∃ f, f = (lsD d4)[q] := ⟨_, rfl⟩
              have hv : ((lsD d4).map Proofs.encStr)[q]? = some (.string ⟨f.toArray⟩) := by
                rw [List.getElem?_map, List.getElem?_eq_getElem hkl, hf]
                rfl
              obtain ⟨a10, hA10, hc10⟩ := HR10.out (fun e => by rw [e] at hv; cases hv)
              subst hA10
              have c0 := hc10 q _ hv
              have c2 : wr.cell? (a10.add q) = some (.string ⟨f.toArray⟩) := (World.cell?_of_block (w := w10) (hk11.block _ (World.block_lt_of_cell? w10 _ c0) (fun hx => by
                rw [block_of_add] at hx
                have h1 := HX8.out.lx.lt _ hx
                have h3 := HA10.out a10 rfl
                omega))).trans c0
              have HDR : Shut ((lsD d4).drop q = f :: (lsD d4).drop (q + 1)) := ⟨by rw [List.drop_eq_getElem_cons hkl, hf]⟩
              have HL11 := Shut.mk hL11
              have HKS := Shut.mk (And.intro hk11 hs11)
              have hkI : (q : Int) < (NL : Int) := by omega
              obtain ⟨E12, hE12⟩ : ∃ E12, E12 = (dDel dk f).1 := ⟨_, rfl⟩
              obtain ⟨d12, hd12⟩ : ∃ d12, d12 = (dDel dk f).2 := ⟨_, rfl⟩
              have HSX : Shut (sRmv (mineL ss) d4 (lsD d4) = if f ∈ mineL ss then sRmv (mineL ss) dk ((lsD d4).drop (q + 1)) else if E12 = 0 then sRmv (mineL ss) d12 ((lsD d4).drop (q + 1)) else (E12, d12)) := ⟨by
                rw [HSR.out, HDR.out, hE12, hd12]
                rfl⟩
              obtain ⟨Ar, cr, r0, hrr, hrc, hra⟩ := hL11.row
              rw [← HN.out] at r0
              have HNM := Shut.mk (rnames_calls Ar cr N ss wr hrr HLE.out HN.out (by omega))
              have HRMV : Shut (∀ (w0 : World), LX w0 GL gx M11 dk (k + 2) ss deadk → Calls Tryz.prog 31 #[gq gx, .string ⟨f.toArray⟩] w0 fun e w' => e = .returned (.int .i64 E12) ∧ LXS w0 w' GL gx M11 d12 (k + 2) ss deadk) := ⟨fun w0 h0 => by
                have := lx_remove h0 ⟨f.toArray⟩
                rw [show (ByteArray.mk f.toArray).data.toList = f by simp, ← hE12, ← hd12] at this
                exact this⟩
              clear hv hc10 c0 hL11 hk11 hs11 hf hE12 hd12 hrr hrc hra
              by_cases hman : f = manN
              · have TM : (f == [109, 97, 110, 105, 102, 101, 115, 116]) = true := by rw [hman]; rfl
                have HSY : Shut (∃ dk deadk, LXS w10 wr GL gx M8 dk (k + 2) ss deadk ∧ sRmv (mineL ss) d4 (lsD d4) = sRmv (mineL ss) dk ((lsD d4).drop (q + 1))) := ⟨dk, deadk, ⟨M11, HL11.out, HKS.out.1, HKS.out.2⟩, HSX.out.trans (if_pos (mineL_iff.2 (.inr hman)))⟩
                clear hman
                go_wp2_with fail
                go_roundw
                case rel => exact ⟨q + 1, by omega, by go_num, HSY⟩
                case measure => first | (simp [intOf]; done) | (simp [intOf]; omega)
              · have TM : (f == [109, 97, 110, 105, 102, 101, 115, 116]) = false := by
                  rw [beq_eq_false_iff_ne]
                  exact hman
                go_wp2_with fail
                refine HNM.out.mono ?_
                rintro e w11 ⟨v11, rfl, ho11, hb11, _⟩
                have HL12 := Shut.mk (HL11.out.quiet hb11)
                have HK12 := Shut.mk (lkquiet HKS.out hb11)
                have HO11 := Shut.mk ho11
                clear ho11 hb11 r0
                go_wp2_with fail
                refine (rhas_calls v11 (ss.map seg) N ⟨f.toArray⟩ _ HO11.out (by rw [List.length_map]; exact HN.out.symm) (by omega)).mono ?_
                rintro e wx ⟨rfl, rfl⟩
                rw [show (ByteArray.mk f.toArray).data.toList = f by simp]
                by_cases hin : f ∈ ss.map seg
                · rw [decide_eq_true hin]
                  have HSY : Shut (∃ dk deadk, LXS w10 w11 GL gx M8 dk (k + 2) ss deadk ∧ sRmv (mineL ss) d4 (lsD d4) = sRmv (mineL ss) dk ((lsD d4).drop (q + 1))) := ⟨dk, deadk, ⟨M11, HL12.out, HK12.out.1, HK12.out.2⟩, HSX.out.trans (if_pos (mineL_iff.2 (.inl hin)))⟩
                  clear hin
                  go_wp2_with fail
                  go_roundw
                  case rel => exact ⟨q + 1, by omega, by go_num, HSY⟩
                  case measure => first | (simp [intOf]; done) | (simp [intOf]; omega)
                · rw [decide_eq_false hin]
                  have hsx2 := HSX.out.trans (if_neg (fun e => (mineL_iff.1 e).elim hin hman))
                  have HRM5 := Shut.mk (HRMV.out _ HL12.out)
                  clear hin
                  by_cases hE : E12 = 0
                  · have HSX2 := Shut.mk (hsx2.trans (if_pos hE))
                    clear hsx2
                    subst hE
                    go_wp2_with fail
                    refine HRM5.out.mono ?_
                    rintro e w12 ⟨rfl, hst⟩
                    have HSY : Shut (∃ dk deadk, LXS w10 w12 GL gx M8 dk (k + 2) ss deadk ∧ sRmv (mineL ss) d4 (lsD d4) = sRmv (mineL ss) dk ((lsD d4).drop (q + 1))) := ⟨d12, deadk, LXS.trans HK12.out.1 HK12.out.2 hst, HSX2.out⟩
                    clear hst
                    go_wp2_with fail
                    go_roundw
                    case rel => exact ⟨q + 1, by omega, by go_num, HSY⟩
                    case measure => first | (simp [intOf]; done) | (simp [intOf]; omega)
                  · have HSX2 := Shut.mk (hsx2.trans (if_neg hE))
                    clear hsx2
                    go_wp2_with fail
                    refine HRM5.out.mono ?_
                    rintro e w12 ⟨rfl, hst⟩
                    obtain ⟨M12, hx12⟩ := HX10.out.step (LXS.trans HK12.out.1 HK12.out.2 hst)
                    have HX12 := Shut.mk hx12
                    clear hst hx12
                    go_wp2_with fail
                    go_ret3
                    rw [HGO2.out, HSX2.out, if_neg hE]
                    exact HX12.out.bad hE (by omega)
            · obtain rfl : q = NL := by omega
              have hend : sRmv (mineL ss) d4 (lsD d4) = (0, dk) := by
                rw [HSR.out, List.drop_of_length_le (by rw [← HNL.out]; exact Nat.le_refl _)]
                rfl
              obtain ⟨M11, hx11⟩ := HX10.out.step hst
              obtain ⟨⟨E13, rs13, d13⟩, hR⟩ : ∃ R, gScan dk ss = R := ⟨_, rfl⟩
              have HG3 : Shut (gOpen d = (E13, rs13, d13)) := ⟨by rw [HGO2.out, hend, if_pos rfl, hR]⟩
              have hsc := rscan_calls hx11.lx HGD.out.2 HLE.out (by rw [← HN.out]; exact hss5)
              rw [hR] at hsc
              have HSCN : Shut (Calls Tryz.prog 79 #[gq GL] wr fun e w' => ∃ v l' dead', e = .returned (.tuple #[v, .int .i64 E13]) ∧ Recs w' wr.heap.size (fun x => wr.heap.size ≤ x) v rs13 ∧ LXS wr w' GL gx M11 d13 k l' dead') := ⟨hsc⟩
              have HX11 := Shut.mk hx11
              have HGS := Shut.mk hR
              clear hst hend hx11 hR hsc
              by_cases hE : E13 = 0
              · subst hE
                go_wp2_with fail
                refine HSCN.out.mono ?_
                rintro e w13 ⟨v13, l13, dead13, rfl, hrec, hst13⟩
                obtain ⟨M14, hx14⟩ := HX11.out.step hst13
                have HX14 := Shut.mk hx14
                have hk0 := HX11.out.kb.size
                have HREC := Shut.mk (hrec.imp hk0 (fun x hx => Nat.le_trans hk0 hx) : Recs w13 w.heap.size (fun x => w.heap.size ≤ x) v13 rs13)
                clear hst13 hx14 hrec hk0
                go_wp2_with fail
                go_ret3
                rw [HG3.out]
                exact HX14.out.fin HREC.out GL (Nat.le_refl _)
              · go_wp2_with fail
                refine HSCN.out.mono ?_
                rintro e w13 ⟨v13, l13, dead13, rfl, hrec, hst13⟩
                obtain ⟨M14, hx14⟩ := HX11.out.step hst13
                have HX14 := Shut.mk hx14
                have hrs : rs13 = [] := gScan_rs (dk := dk) (ss := ss) HGS.out hE
                clear hst13 hx14 hrec
                go_wp2_with fail
                go_ret3
                rw [HG3.out, hrs]
                exact HX14.out.bad hE (Nat.le_refl _)
    · have HGO := Shut.mk (hgo.trans (if_neg hE))
      clear hgo
      go_wp2_with fail
      refine HRF.out.mono ?_
      rintro e w4 ⟨rfl, hst⟩
      obtain ⟨G4, hs4⟩ := HN1.out.step hst
      have HS4 := Shut.mk hs4
      clear hst hs4
      go_wp2_with fail
      go_ret3
      rw [HGO.out]
      exact HS4.out.bad hE (by omega)
  · have HGO : Shut (gOpen d = gOpen1 d) := ⟨if_neg hfr⟩
    rw [Bool.not_eq_true] at hfr
    rw [hfr]
    clear hfr
    obtain ⟨GL, hGL⟩ : ∃ GL, GL = w1.heap.size := ⟨_, rfl⟩
    obtain ⟨W2, hW2⟩ : ∃ W2, w1.alloc (.cells #[gq gx, .slice none 0 0, .bool false] 119) = W2 := ⟨_, rfl⟩
    have hbx := HN1.out.box
    rw [hW2, ← hGL] at hbx
    obtain ⟨H0, hH0⟩ : ∃ H0, H0 = GL :: G := ⟨_, rfl⟩
    rw [← hH0] at hbx
    have HB2 := Shut.mk hbx
    clear hbx hH0
    have HLS2 := Shut.mk (lx_list HB2.out.lx)
    have hlen2 := lsD_len HB2.out.lx
    have s0 := HB2.out.lx.c0
    go_wp2_with fail
    rw [← hGL]
    clear hW2 hGL
    refine HLS2.out.mono ?_
    rintro e w5 ⟨v5, rfl, ho5, hb5, _⟩
    have HS5 := Shut.mk (HB2.out.quiet hb5)
    have HO5 := Shut.mk ho5
    clear ho5 hb5 s0
    go_wp2_with fail
    refine (rhas_calls v5 (lsD d) _ ⟨#[109, 97, 110, 105, 102, 101, 115, 116]⟩ _ HO5.out rfl (by omega)).mono ?_
    rintro e w6 ⟨rfl, rfl⟩
    rw [mem_look, show (ByteArray.mk #[109, 97, 110, 105, 102, 101, 115, 116]).data.toList = manN from rfl]
    cases hlk : look d.S manN with
    | none =>
      rw [show (none : Option (List UInt8 × Nat)).isSome = false from rfl]
      obtain ⟨LN, hLN⟩ : ∃ LN, LN = (lsD d).length := ⟨_, rfl⟩
      have hls6 := lx_list HS5.out.lx
      rw [← hLN] at hls6
      have HLN := Shut.mk hLN
      have HLS6 := Shut.mk hls6
      have s0 := HS5.out.lx.c0
      clear hls6 hLN
      go_wp2_with fail
      refine HLS6.out.mono ?_
      rintro e w6 ⟨v6, rfl, ho6, hb6, _⟩
      obtain ⟨A6, c6, rfl, _⟩ := ho6.form
      have HS6 := Shut.mk (HS5.out.quiet hb6)
      clear ho6 hb6 s0
      by_cases h0 : LN = 0
      · subst h0
        have HG1 := Shut.mk (HGO.out.trans (gOpen1_new hlk (List.eq_nil_of_length_eq_zero HLN.out.symm)))
        have hb7 : Below w6.heap.size w6 (w6.alloc (.cells #[.int .i64 1] 3)) := (Below.refl _ w6).alloc (Nat.le_refl _) _
        have hs7 := HS6.out.quiet hb7
        have hlt6 := fun x hx => HS6.out.lx.lt x hx
        obtain ⟨W7, hW7⟩ : ∃ W7, w6.alloc (.cells #[.int .i64 1] 3) = W7 := ⟨_, rfl⟩
        have hrd7 : Rd (w6.alloc (.cells #[.int .i64 1] 3)) (some ⟨w6.heap.size, 0, none⟩) (its [1]) := rd_new w6 #[.int .i64 1] 3
        have hsz7 : W7.heap.size = w6.heap.size + 1 := by rw [← hW7, World.size_alloc]
        rw [hW7] at hs7 hrd7
        obtain ⟨hs8, t8, fr8, v8, q8⟩ := hs7.lx.setl (A := some ⟨w6.heap.size, 0, none⟩) (c := 1) (l' := [1]) hrd7 (Nat.le_refl _) (fun a ha _ => by
          cases ha
          exact ⟨fun hx => Nat.lt_irrefl _ (hlt6 _ hx), by simp only [hsz7]; omega⟩)
        obtain ⟨M8, hx8⟩ := hs7.step hs8
        simp only [List.length_cons, List.length_nil, Nat.zero_add] at t8 hx8
        obtain ⟨W8, hW8⟩ : ∃ W8, W7.setCell ⟨GL, 1, none⟩ (.slice (some ⟨w6.heap.size, 0, none⟩) 1 1) = W8 := ⟨_, rfl⟩
        have hrd8 : Rd W8 (some ⟨w6.heap.size, 0, none⟩) (its [1]) := by
          rw [← hW8]
          refine rd_kept hrd7 ((Kb.refl W7 [GL]).setCell (p := ⟨GL, 1, none⟩) (by simp) _) (fun a ha _ hx => ?_)
          cases ha
          have h1 := hlt6 _ HS6.out.lx.gl
          have h2 : w6.heap.size = GL := by simpa using hx
          omega
        rw [hW8] at t8 hx8
        have HX8 := Shut.mk hx8
        have HMAN := rman_calls hx8.lx (some ⟨w6.heap.size, 0, none⟩) 1 1 [1] hrd8 rfl (Nat.le_refl _) (by decide) (by decide)
        obtain ⟨E8, hE8⟩ : ∃ E8, E8 = (dWr d [1]).1 := ⟨_, rfl⟩
        obtain ⟨d8, hd8⟩ : ∃ d8, d8 = (dWr d [1]).2 := ⟨_, rfl⟩
        rw [← hE8, ← hd8] at HMAN HG1
        have HMAN := Shut.mk HMAN
        clear hs7 hs8 hx8 hrd7 hrd8 hlt6 hsz7 hb7 hE8 hd8
        by_cases hE8 : E8 = 0
        · subst hE8
          go_wp2_with fail
          refine HMAN.out.mono ?_
          rintro e w9 ⟨rfl, dead9, hst9⟩
          obtain ⟨M9, hx9⟩ := HX8.out.step hst9
          have HX9 := Shut.mk hx9
          clear hst9 hx9
          go_wp2_with fail
          go_ret3
          rw [HG1.out]
          exact HX9.out.fin (Recs.nil _ _ _) GL (Nat.le_refl _)
        · go_wp2_with fail
          refine HMAN.out.mono ?_
          rintro e w9 ⟨rfl, dead9, hst9⟩
          obtain ⟨M9, hx9⟩ := HX8.out.step hst9
          have HX9 := Shut.mk hx9
          clear hst9 hx9
          go_wp2_with fail
          go_ret3
          rw [HG1.out]
          exact HX9.out.bad hE8 (Nat.le_refl _)
      · have HG1 := Shut.mk (HGO.out.trans (gOpen1_odd hlk (fun e => h0 (by rw [HLN.out, e]; rfl))))
        have hLI : (0 : Int) < (LN : Int) := by omega
        go_wp2_with fail
        go_ret3
        rw [HG1.out]
        exact HS6.out.bad (by decide) (by omega)
    | some p =>
      obtain ⟨b, sy⟩ := p
      rw [show (some (b, sy) : Option (List UInt8 × Nat)).isSome = true from rfl]
      obtain ⟨Gr, hDr, _⟩ := HS5.out.lx.disk
      have hmr := nd_man hDr hlk
      obtain ⟨NB, hNB⟩ : ∃ NB, NB = b.length := ⟨_, rfl⟩
      have hblen : NB ≤ 1048576 := by rw [hNB]; exact (hDr.dv.lk hlk).2.1
      rw [← hNB] at hmr
      have HRM4 := Shut.mk hmr
      have HNB := Shut.mk hNB
      clear hDr hmr hNB
      go_wp2_with fail
      refine HRM4.out.mono ?_
      rintro e w5 ⟨A5, c5, rfl, ho5, hb5⟩
      have HS6 := Shut.mk (HS5.out.quiet hb5)
      have hac5 : NB ≤ c5 := by
        obtain ⟨A6, c6, e6, _, h6, _⟩ := ho5.form
        cases e6
        exact h6
      have HPA := Shut.mk (rnum_calls A5 c5 NB b w5 (own_addr ho5) (rdb_own _ ho5) HNB.out.symm hac5 hblen)
      clear ho5 hb5
      go_wp2_with fail
      refine HPA.out.mono ?_
      rintro e w6 ⟨hb6, hor⟩
      have HS7 := Shut.mk (HS6.out.quiet hb6)
      have hs56 := hb6.size
      rcases hor with ⟨hp, rfl⟩ | ⟨ss, g6, c6, hp, rfl, ho6, hg6⟩
      · have HG1 := Shut.mk (HGO.out.trans (gOpen1_bad hlk hp))
        obtain ⟨hs8, t8, fr8, v8, q8⟩ := HS7.out.lx.setl (A := none) (c := 0) (l' := []) (fun hne => absurd rfl hne) (Nat.le_refl _) (fun a ha => by cases ha)
        obtain ⟨M8, hx8⟩ := HS7.out.step hs8
        have HX8 := Shut.mk hx8
        simp only [List.length_nil] at t8 HX8
        clear hs8 hx8 hb6 hp
        go_wp2_with fail
        go_ret3
        rw [HG1.out]
        exact HX8.out.bad (by decide) (by omega)
      · have hgo2 := HGO.out.trans (gOpen1_rmv hlk hp)
        obtain ⟨hgood, hssne, hss5⟩ := prsL_some hp
        obtain ⟨N, hN⟩ : ∃ N, N = ss.length := ⟨_, rfl⟩
        have hpos : 1 ≤ N := by rw [hN]; exact List.length_pos_iff.2 hssne
        have hrd6 : Rd w6 (some ⟨g6, 0, none⟩) (its ss) := by
          obtain ⟨A8, c8, e8, hr8, _⟩ := ho6.form
          cases e8
          exact hr8
        have hcap6 : ss.length ≤ c6 := by
          obtain ⟨A8, c8, e8, _, h8, _⟩ := ho6.form
          cases e8
          exact h8
        have hg6lt := ho6.block_lt (g := g6) rfl
        obtain ⟨hs8, t8, fr8, v8, q8⟩ := HS7.out.lx.setl hrd6 hcap6 (fun a ha _ => by
          cases ha
          exact ⟨fun hx => by have := HS6.out.lx.lt _ hx; simp only at this; omega, hg6lt⟩)
        obtain ⟨M8, hx8⟩ := HS7.out.step hs8
        rw [← hN] at hx8 t8 hss5 hcap6 ⊢
        obtain ⟨W8, hW8⟩ : ∃ W8, w6.setCell ⟨GL, 1, none⟩ (.slice (some ⟨g6, 0, none⟩) N c6) = W8 := ⟨_, rfl⟩
        rw [hW8] at hx8 t8
        have HX8 := Shut.mk hx8
        have HN := Shut.mk hN
        have HGO2 := Shut.mk hgo2
        have HGD := Shut.mk (And.intro hgood hssne)
        have HLE : Shut (∀ n ∈ ss, n ≤ 99999999) := ⟨fun n hn => (hgood.2 n hn).2⟩
        obtain ⟨NL, hNL⟩ : ∃ NL, NL = (lsD d).length := ⟨_, rfl⟩
        have hls9 := lx_list hx8.lx
        rw [← hNL] at hls9
        have HLS9 := Shut.mk hls9
        have HNL := Shut.mk hNL
        have hNLb : NL ≤ 850000 := by rw [hNL]; exact hlen2
        clear hgo2 hgood hssne hN hx8 hs8 ho6 hrd6 hb6 hp hg6 hg6lt hs56 hls9 hNL
        go_wp2_with fail
        refine HLS9.out.mono ?_
        rintro e w10 ⟨v10, rfl, ho10, hb10, hn10⟩
        obtain ⟨A10, c10, rfl, hr10, hlc10, hcm10, hob10, _⟩ := ho10.form
        have HA10 : Shut (∀ a, A10 = some a → W8.heap.size ≤ a.block) := ⟨fun a ha => hn10 a.block (hob10.trans (by rw [ha]; rfl))⟩
        have HR10 := Shut.mk hr10
        have HX10 := Shut.mk (HX8.out.quiet hb10)
        clear ho10 hb10 hn10 hr10 hob10 hlc10 hcm10 q8 fr8 t8 hW8
        go_wp2_with fail
        go_loopw [66] (fun i wr => ∃ q : Nat, q ≤ NL ∧ i = .int .i64 q ∧ Shut (∃ dk deadk, LXS w10 wr GL gx M8 dk (k + 2) ss deadk ∧ sRmv (mineL ss) d (lsD d) = sRmv (mineL ss) dk ((lsD d).drop q))) (fun i _ => NL - (intOf i).toNat)
        case atStart => exact ⟨0, Nat.zero_le _, rfl, ⟨d, _, LXS.same HX10.out.lx, rfl⟩⟩
        case round =>
          obtain ⟨q, hk, rfl, HST⟩ := hrel
          obtain ⟨dk, deadk, hst, hsr⟩ := HST.out
          have HSR := Shut.mk hsr
          clear HST hsr
          by_cases hlt : q < NL
          · have hkl : q < (lsD d).length := by rw [← HNL.out]; exact hlt
            obtain ⟨M11, hL11, hk11, hs11⟩ := hst
            obtain ⟨f, hf⟩ : ∃ f, f = (lsD d)[q] := ⟨_, rfl⟩
            have hv : ((lsD d).map Proofs.encStr)[q]? = some (.string ⟨f.toArray⟩) := by
              rw [List.getElem?_map, List.getElem?_eq_getElem hkl, hf]
              rfl
            obtain ⟨a10, hA10, hc10⟩ := HR10.out (fun e => by rw [e] at hv; cases hv)
            subst hA10
            have c0 := hc10 q _ hv
            have c2 : wr.cell? (a10.add q) = some (.string ⟨f.toArray⟩) := (World.cell?_of_block (w := w10) (hk11.block _ (World.block_lt_of_cell? w10 _ c0) (fun hx => by
              rw [block_of_add] at hx
              have h1 := HX8.out.lx.lt _ hx
              have h3 := HA10.out a10 rfl
              omega))).trans c0
            have HDR : Shut ((lsD d).drop q = f :: (lsD d).drop (q + 1)) := ⟨by rw [List.drop_eq_getElem_cons hkl, hf]⟩
            have HL11 := Shut.mk hL11
            have HKS := Shut.mk (And.intro hk11 hs11)
            have hkI : (q : Int) < (NL : Int) := by omega
            obtain ⟨E12, hE12⟩ : ∃ E12, E12 = (dDel dk f).1 := ⟨_, rfl⟩
            obtain ⟨d12, hd12⟩ : ∃ d12, d12 = (dDel dk f).2 := ⟨_, rfl⟩
            have HSX : Shut (sRmv (mineL ss) d (lsD d) = if f ∈ mineL ss then sRmv (mineL ss) dk ((lsD d).drop (q + 1)) else if E12 = 0 then sRmv (mineL ss) d12 ((lsD d).drop (q + 1)) else (E12, d12)) := ⟨by
              rw [HSR.out, HDR.out, hE12, hd12]
              rfl⟩
            obtain ⟨Ar, cr, r0, hrr, hrc, hra⟩ := hL11.row
            rw [← HN.out] at r0
            have HNM := Shut.mk (rnames_calls Ar cr N ss wr hrr HLE.out HN.out (by omega))
            have HRMV : Shut (∀ (w0 : World), LX w0 GL gx M11 dk (k + 2) ss deadk → Calls Tryz.prog 31 #[gq gx, .string ⟨f.toArray⟩] w0 fun e w' => e = .returned (.int .i64 E12) ∧ LXS w0 w' GL gx M11 d12 (k + 2) ss deadk) := ⟨fun w0 h0 => by
              have := lx_remove h0 ⟨f.toArray⟩
              rw [show (ByteArray.mk f.toArray).data.toList = f by simp, ← hE12, ← hd12] at this
              exact this⟩
            clear hv hc10 c0 hL11 hk11 hs11 hf hE12 hd12 hrr hrc hra
            by_cases hman : f = manN
            · have TM : (f == [109, 97, 110, 105, 102, 101, 115, 116]) = true := by rw [hman]; rfl
              have HSY : Shut (∃ dk deadk, LXS w10 wr GL gx M8 dk (k + 2) ss deadk ∧ sRmv (mineL ss) d (lsD d) = sRmv (mineL ss) dk ((lsD d).drop (q + 1))) := ⟨dk, deadk, ⟨M11, HL11.out, HKS.out.1, HKS.out.2⟩, HSX.out.trans (if_pos (mineL_iff.2 (.inr hman)))⟩
              clear hman
              go_wp2_with fail
              go_roundw
              case rel => exact ⟨q + 1, by omega, by go_num, HSY⟩
              case measure => first | (simp [intOf]; done) | (simp [intOf]; omega)
            · have TM : (f == [109, 97, 110, 105, 102, 101, 115, 116]) = false := by
                rw [beq_eq_false_iff_ne]
                exact hman
              go_wp2_with fail
              refine HNM.out.mono ?_
              rintro e w11 ⟨v11, rfl, ho11, hb11, _⟩
              have HL12 := Shut.mk (HL11.out.quiet hb11)
              have HK12 := Shut.mk (lkquiet HKS.out hb11)
              have HO11 := Shut.mk ho11
              clear ho11 hb11 r0
              go_wp2_with fail
              refine (rhas_calls v11 (ss.map seg) N ⟨f.toArray⟩ _ HO11.out (by rw [List.length_map]; exact HN.out.symm) (by omega)).mono ?_
              rintro e wx ⟨rfl, rfl⟩
              rw [show (ByteArray.mk f.toArray).data.toList = f by simp]
              by_cases hin : f ∈ ss.map seg
              · rw [decide_eq_true hin]
                have HSY : Shut (∃ dk deadk, LXS w10 w11 GL gx M8 dk (k + 2) ss deadk ∧ sRmv (mineL ss) d (lsD d) = sRmv (mineL ss) dk ((lsD d).drop (q + 1))) := ⟨dk, deadk, ⟨M11, HL12.out, HK12.out.1, HK12.out.2⟩, HSX.out.trans (if_pos (mineL_iff.2 (.inl hin)))⟩
                clear hin
                go_wp2_with fail
                go_roundw
                case rel => exact ⟨q + 1, by omega, by go_num, HSY⟩
                case measure => first | (simp [intOf]; done) | (simp [intOf]; omega)
              · rw [decide_eq_false hin]
                have hsx2 := HSX.out.trans (if_neg (fun e => (mineL_iff.1 e).elim hin hman))
                have HRM5 := Shut.mk (HRMV.out _ HL12.out)
                clear hin
                by_cases hE : E12 = 0
                · have HSX2 := Shut.mk (hsx2.trans (if_pos hE))
                  clear hsx2
                  subst hE
                  go_wp2_with fail
                  refine HRM5.out.mono ?_
                  rintro e w12 ⟨rfl, hst⟩
                  have HSY : Shut (∃ dk deadk, LXS w10 w12 GL gx M8 dk (k + 2) ss deadk ∧ sRmv (mineL ss) d (lsD d) = sRmv (mineL ss) dk ((lsD d).drop (q + 1))) := ⟨d12, deadk, LXS.trans HK12.out.1 HK12.out.2 hst, HSX2.out⟩
                  clear hst
                  go_wp2_with fail
                  go_roundw
                  case rel => exact ⟨q + 1, by omega, by go_num, HSY⟩
                  case measure => first | (simp [intOf]; done) | (simp [intOf]; omega)
                · have HSX2 := Shut.mk (hsx2.trans (if_neg hE))
                  clear hsx2
                  go_wp2_with fail
                  refine HRM5.out.mono ?_
                  rintro e w12 ⟨rfl, hst⟩
                  obtain ⟨M12, hx12⟩ := HX10.out.step (LXS.trans HK12.out.1 HK12.out.2 hst)
                  have HX12 := Shut.mk hx12
                  clear hst hx12
                  go_wp2_with fail
                  go_ret3
                  rw [HGO2.out, HSX2.out, if_neg hE]
                  exact HX12.out.bad hE (by omega)
          · obtain rfl : q = NL := by omega
            have hend : sRmv (mineL ss) d (lsD d) = (0, dk) := by
              rw [HSR.out, List.drop_of_length_le (by rw [← HNL.out]; exact Nat.le_refl _)]
              rfl
            obtain ⟨M11, hx11⟩ := HX10.out.step hst
            obtain ⟨⟨E13, rs13, d13⟩, hR⟩ : ∃ R, gScan dk ss = R := ⟨_, rfl⟩
            have HG3 : Shut (gOpen d = (E13, rs13, d13)) := ⟨by rw [HGO2.out, hend, if_pos rfl, hR]⟩
            have hsc := rscan_calls hx11.lx HGD.out.2 HLE.out (by rw [← HN.out]; exact hss5)
            rw [hR] at hsc
            have HSCN : Shut (Calls Tryz.prog 79 #[gq GL] wr fun e w' => ∃ v l' dead', e = .returned (.tuple #[v, .int .i64 E13]) ∧ Recs w' wr.heap.size (fun x => wr.heap.size ≤ x) v rs13 ∧ LXS wr w' GL gx M11 d13 k l' dead') := ⟨hsc⟩
            have HX11 := Shut.mk hx11
            have HGS := Shut.mk hR
            clear hst hend hx11 hR hsc
            by_cases hE : E13 = 0
            · subst hE
              go_wp2_with fail
              refine HSCN.out.mono ?_
              rintro e w13 ⟨v13, l13, dead13, rfl, hrec, hst13⟩
              obtain ⟨M14, hx14⟩ := HX11.out.step hst13
              have HX14 := Shut.mk hx14
              have hk0 := HX11.out.kb.size
              have HREC := Shut.mk (hrec.imp hk0 (fun x hx => Nat.le_trans hk0 hx) : Recs w13 w.heap.size (fun x => w.heap.size ≤ x) v13 rs13)
              clear hst13 hx14 hrec hk0
              go_wp2_with fail
              go_ret3
              rw [HG3.out]
              exact HX14.out.fin HREC.out GL (Nat.le_refl _)
            · go_wp2_with fail
              refine HSCN.out.mono ?_
              rintro e w13 ⟨v13, l13, dead13, rfl, hrec, hst13⟩
              obtain ⟨M14, hx14⟩ := HX11.out.step hst13
              have HX14 := Shut.mk hx14
              have hrs : rs13 = [] := gScan_rs (dk := dk) (ss := ss) HGS.out hE
              clear hst13 hx14 hrec
              go_wp2_with fail
              go_ret3
              rw [HG3.out, hrs]
              exact HX14.out.bad hE (Nat.le_refl _)
end
end Go.Proofs.YtmlfeljhojmbbaaGreatDoor
