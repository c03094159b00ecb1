/- Walk: the document's disk: Crash. -/
import Derived.Test.YtmlfeljhojmbbaaGreatDoorRdA
import Derived.Test.YtmlfeljhojmbbaaGreatDoorCrash
import Derived.Deep.Cut
namespace Go.Proofs.YtmlfeljhojmbbaaGreatDoor
open Go.RowKit Go.Maps
set_option linter.unusedSimpArgs false
set_option linter.unusedVariables false
set_option maxRecDepth 100000

def tailD_ (tl : List Tl) (s : List UInt8) : Tl := (tailOf tl s).getD zeroT
theorem tail_drop {tl : List Tl} {k : Nat} (h : k < tl.length) (s : List UInt8) : tailD_ (tl.drop k) s = if (tl.getD k default).name.data.toList = s then tl.getD k default else tailD_ (tl.drop (k + 1)) s := by
  have e : tl.drop k = tl.getD k default :: tl.drop (k + 1) := by
    rw [List.drop_eq_getElem_cons h]
    congr 1
    simp [List.getD_eq_getElem?_getD, List.getElem?_eq_getElem h]
  unfold tailD_ tailOf
  rw [e, List.find?_cons]
  by_cases hs : (tl.getD k default).name.data.toList = s
  · rw [if_pos hs, beq_iff_eq.2 hs]
    rfl
  · rw [if_neg hs, beq_eq_false_iff_ne.2 hs]
theorem RdT.kept {w w' : World} {A : Option Addr} {tl : List Tl} {L : List Nat} (h : RdT w A tl) (hk : Kb w w' L) (hA : ∀ ad, A = some ad → tl ≠ [] → ad.block < w.heap.size ∧ ad.block ∉ L) : RdT w' A tl := by
  intro k hk'
  obtain ⟨ad, e, h0, h1, h2⟩ := h k hk'
  obtain ⟨hlt, hn⟩ := hA ad e (fun e => by rw [e] at hk'; simp at hk')
  have hbl := hk.block _ hlt hn
  refine ⟨ad, e, ?_, ?_, ?_⟩
  · unfold World.cell? at h0 ⊢
    rw [block_of_add] at h0 ⊢
    rw [hbl]
    exact h0
  · unfold World.cell? at h1 ⊢
    simp only [block_of_add] at h1 ⊢
    rw [hbl]
    exact h1
  · unfold World.cell? at h2 ⊢
    simp only [block_of_add] at h2 ⊢
    rw [hbl]
    exact h2
theorem crash_numD (kp : Int) (t : Tl) (NE SY : Nat) (hk : kp = t.keep) (h : SY ≤ NE) (hn : NE ≤ 1048576) : ((SY : Int) + if (NE : Int) - (SY : Int) < (if kp < 0 then 0 else kp) then (NE : Int) - (SY : Int) else if kp < 0 then 0 else kp) = ((crashN t NE SY : Nat) : Int) ∧ SY ≤ crashN t NE SY ∧ crashN t NE SY ≤ NE := by
  rw [hk]
  exact crash_num t NE SY h hn
theorem RdAt.turnbs {w : World} {gx : Nat} {v : Value} {R : List RF} {room short fuse : Int} (h : RdAt w gx v R room short fuse) {k : Nat} {c : RF} (hc : R[k]? = some c) {g n cap : Nat} (hv : v = .slice (some ⟨g, 0, none⟩) n cap) {A : Option Addr} {cp : Nat} {b : List UInt8} (ho : Own w 5 1 (.slice A b.length cp) b.length (bys b)) (s : Nat) :
    RdAt ((w.setCell ⟨g, k * 3 + 1, none⟩ (.slice A b.length cp)).setCell ⟨g, k * 3 + 2, none⟩ (.int .i64 (s : Int))) gx v (R.set k ⟨c.k, A, cp, b, s⟩) room short fuse := by
  have hk := (List.getElem?_eq_some_iff.1 hc).1
  have h1 := h.turnb hc hv ho
  have h2 := h1.turns (k := k) (c := ⟨c.k, A, cp, b, c.syn⟩) (by rw [List.getElem?_set_self hk]) hv s
  rw [List.set_set] at h2
  exact h2
theorem RdAt.turnsb {w : World} {gx : Nat} {v : Value} {R : List RF} {room short fuse : Int} (h : RdAt w gx v R room short fuse) {k : Nat} {c : RF} (hc : R[k]? = some c) {g n cap : Nat} (hv : v = .slice (some ⟨g, 0, none⟩) n cap) {A : Option Addr} {cp : Nat} {b : List UInt8} (ho : Own w 5 1 (.slice A b.length cp) b.length (bys b)) (s : Nat) :
    RdAt ((w.setCell ⟨g, k * 3 + 2, none⟩ (.int .i64 (s : Int))).setCell ⟨g, k * 3 + 1, none⟩ (.slice A b.length cp)) gx v (R.set k ⟨c.k, A, cp, b, s⟩) room short fuse := by
  have hk := (List.getElem?_eq_some_iff.1 hc).1
  have h1 := h.turns hc hv s
  have hgv : v.ownBlock = some g := by rw [hv]; rfl
  have h2 := h1.turnb (k := k) (c := ⟨c.k, c.A, c.cp, c.b, s⟩) (by rw [List.getElem?_set_self hk]) hv (A := A) (cp := cp) (b := b) (ho.keep fun x hx => Below.heap_setCell w _ _ x (fun e => by
    have := own_types_ne ho h.own (by decide) x hx
    rw [hgv] at this
    exact this (by rw [e])))
  rw [List.set_set] at h2
  exact h2
theorem crash_step {T : List Fl} {k : Nat} {x : Fl} (h : T[k]? = some x) (g : Fl → Fl) : (((T.take k).map g) ++ T.drop k).set k (g x) = ((T.take (k + 1)).map g) ++ T.drop (k + 1) := by
  have hk := (List.getElem?_eq_some_iff.1 h).1
  have hx := (List.getElem?_eq_some_iff.1 h).2
  have hl : ((T.take k).map g).length = k := by rw [List.length_map, List.length_take]; omega
  rw [List.set_append_right _ _ (by omega), hl, Nat.sub_self, take_at h, List.map_append, List.drop_eq_getElem_cons hk, List.set_cons_zero]
  simp
def crashR (T : List UInt8 → Tl) (x : Fl) : Fl := (x.1, crashB (T x.1) x.2.1 x.2.2, crashN (T x.1) x.2.1.length x.2.2)
section
variable {w w' : World} {gx : Nat} {v : Value} {R : List RF} {room short fuse : Int}
set_option maxHeartbeats 8000000 in
theorem rcrash_calls (hR : RdAt w gx v R room short fuse) (hl : R.length < 900000) (hlen : ∀ c ∈ R, c.syn ≤ c.b.length ∧ c.b.length ≤ 1048576) (A : Option Addr) (cap : Nat) (tl : List Tl) (htl : tl.length < 9000000000000) (hT : RdT w A tl)
    (hA : ∀ ad, A = some ad → tl ≠ [] → ad.block < w.heap.size ∧ ad.block ∉ footD gx v R) :
    Calls Tryz.prog 37 #[.pointer (some ⟨gx, 0, none⟩), .slice A tl.length cap] w fun e w' => e = .returned (.tuple #[]) ∧ AfterD w w' gx v R (crashF (fun s => (tailOf tl s).getD zeroT) (R.map RF.fl)) room (-1) (-1) := by
  obtain ⟨i0, hi0, hz0, hz1, hz2⟩ := info_parts info_u8
  obtain ⟨N, hN⟩ : ∃ N, N = R.length := ⟨_, rfl⟩
  have ho := hR.own
  have q0 : w.cell? ⟨gx, 0, none⟩ = some v := hR.blk.cell 0
  rw [← hN] at ho hl
  obtain ⟨Ar, cr, hv, hrd, hac, hcm, _⟩ := ho.form
  rw [hv] at q0
  have HV := Shut.mk hv
  have HN := Shut.mk hN
  have HR := Shut.mk hR
  have HLEN := Shut.mk hlen
  have HTT := Shut.mk (fun (w9 : World) (hk : Kb w w9 (footD gx v R)) => hT.kept hk hA)
  obtain ⟨NT, hNT⟩ : ∃ NT, NT = tl.length := ⟨_, rfl⟩
  rw [← hNT] at htl ⊢
  have HNT := Shut.mk hNT
  unfold maxLen at hcm
  clear hR hT hA hlen hv hN hNT ho hrd
  go_enter Tryz.func37, Tryz.ntmps37
  go_wp2_with fail
  go_loopw [16] (fun i wr => ∃ (k : Nat) (R' : List RF), k ≤ N ∧ i = .int .i64 k ∧ R'.length = N ∧ RdAt wr gx v R' room short fuse ∧ R'.map RF.fl = (((R.map RF.fl).take k).map (crashR (tailD_ tl))) ++ (R.map RF.fl).drop k ∧
      (∀ j, k ≤ j → R'[j]? = R[j]?) ∧ (∀ c ∈ R', ∀ g, c.v.ownBlock = some g → g ∈ footD gx v R ∨ w.heap.size ≤ g) ∧ Kb w wr (footD gx v R)) (fun i _ => N - (intOf i).toNat)
  case atStart => exact ⟨0, R, Nat.zero_le _, rfl, HN.out.symm, HR.out, by simp, fun _ _ => rfl, fun c hc g hg => .inl (footD_own hc hg), Kb.refl _ _⟩
  case round =>
    obtain ⟨k, R', hk, rfl, hRl, hRd, hfl, hsame, hown, hkb⟩ := hrel
    have HRD := Shut.mk hRd
    have HFL := Shut.mk hfl
    have HSM := Shut.mk hsame
    have HOW := Shut.mk hown
    have HKB := Shut.mk hkb
    have HRL := Shut.mk hRl
    clear hRd hfl hsame hown hkb hRl
    by_cases hlt : k < N
    · obtain ⟨cc, hcc⟩ : ∃ cc, R[k]? = some cc := ⟨R[k]'(by rw [← HN.out]; exact hlt), List.getElem?_eq_getElem _⟩
      have hcc' : R'[k]? = some cc := by rw [HSM.out k (Nat.le_refl _)]; exact hcc
      have ho := HRD.out.own
      rw [HRL.out, HV.out] at ho
      obtain ⟨A', c', hv', hrd', _⟩ := ho.form
      injection hv' with e1 e2 e3
      subst e1
      obtain ⟨ad, rfl, d0, d1, d2⟩ := rf_cells hrd' hcc' (Below.refl _ wr)
      clear e2 e3 ho hrd'
      have hkI : (k : Int) < (N : Int) := by omega
      obtain ⟨hsy, hne⟩ := HLEN.out cc (List.mem_of_getElem? hcc)
      obtain ⟨NE, hNE⟩ : ∃ NE, NE = cc.b.length := ⟨_, rfl⟩
      obtain ⟨SY, hSY⟩ : ∃ SY, SY = cc.syn := ⟨_, rfl⟩
      rw [← hNE, ← hSY] at hsy
      rw [← hNE] at hne d1
      rw [← hSY] at d2
      have HNE := Shut.mk hNE
      have HSY := Shut.mk hSY
      have HCC := Shut.mk hcc
      have HCC' := Shut.mk hcc'
      clear hcc hcc' hNE hSY
      obtain ⟨B, hB⟩ : ∃ B, B = wr.heap.size := ⟨_, rfl⟩
      have HF0 := Shut.mk (Blk.new wr 115 #[.string cc.k, .slice cc.A NE cc.cp, .int .i64 (SY : Int)])
      have HK0 := Shut.mk (HKB.out.alloc (.cells #[.string cc.k, .slice cc.A NE cc.cp, .int .i64 (SY : Int)] 115))
      have HR0 := Shut.mk (HRD.out.below ((Below.refl _ wr).alloc (Nat.le_refl _) (.cells #[.string cc.k, .slice cc.A NE cc.cp, .int .i64 (SY : Int)] 115)))
      have hw1 : IntKind.i64.wrap ((NT : Int) - 1) = (NT : Int) - 1 := by rw [IntKind.wrap_i64]; omega
      go_wp2_with fail
      rw [← hB] at HF0 ⊢
      have HBQ := Shut.mk hB
      clear hB
      generalize wr.alloc (.cells #[.string cc.k, .slice cc.A NE cc.cp, .int .i64 (SY : Int)] 115) = wa at HF0 HK0 HR0 ⊢
      clear d0 d1 d2
      go_loopw [6, 7, 8] (fun kp tn j wi => ∃ q : Nat, q ≤ NT ∧ j = .int .i64 ((q : Int) - 1) ∧ kp = .int .i64 (tailD_ (tl.drop q) cc.k.data.toList).keep ∧ tn = .bool (tailD_ (tl.drop q) cc.k.data.toList).turn ∧ Below wa.heap.size wa wi) (fun _ _ j _ => (intOf j + 1).toNat)
      case atStart => exact ⟨NT, Nat.le_refl _, rfl, by rw [HNT.out, List.drop_length]; rfl, by rw [HNT.out, List.drop_length]; rfl, Below.refl _ _⟩
      case round =>
        obtain ⟨q, hq, rfl, rfl, rfl, hbi⟩ := hrel
        have HBI := Shut.mk hbi
        have hfb := HF0.out.below hbi HF0.out.lt
        have f0 : wr.cell? ⟨B, 0, none⟩ = some (.string cc.k) := hfb.cell 0
        have f1 : wr.cell? ⟨B, 1, none⟩ = some (.slice cc.A NE cc.cp) := hfb.cell 1
        have f2 : wr.cell? ⟨B, 2, none⟩ = some (.int .i64 (SY : Int)) := hfb.cell 2
        have HFB := Shut.mk hfb
        clear hbi hfb
        obtain ⟨tq, htq⟩ : ∃ t, t = tailD_ (tl.drop q) cc.k.data.toList := ⟨_, rfl⟩
        rw [← htq]
        have HTQ := Shut.mk htq
        clear htq
        by_cases hq0 : 0 < q
        · obtain ⟨p, rfl⟩ : ∃ p, q = p + 1 := ⟨q - 1, by omega⟩
          have hpt : p < tl.length := by rw [← HNT.out]; omega
          have HTD := Shut.mk (tail_drop hpt cc.k.data.toList)
          obtain ⟨at_, rfl, t0, t1, t2⟩ := HTT.out wr (HK0.out.below_ HBI.out) p hpt
          obtain ⟨tp, htp⟩ : ∃ t, t = tl.getD p default := ⟨_, rfl⟩
          rw [← htp] at t0 t1 t2 HTD
          rw [← HTQ.out] at HTD
          have hj0 : (((p + 1 : Nat) : Int) - 1) = (p : Int) := by omega
          rw [hj0]
          have hjg : (p : Int) ≥ 0 := by omega
          have hpI : (p : Int) < (NT : Int) := by omega
          have hw2 : IntKind.i64.wrap ((p : Int) - 1) = (p : Int) - 1 := by rw [IntKind.wrap_i64]; omega
          clear htp hj0 hpt
          by_cases hnm : tp.name.data.toList = cc.k.data.toList
          · have hq1 : (tp.name.toList == cc.k.toList) = true := by rw [str_eq, decide_eq_true hnm]
            have HTE := Shut.mk (show tailD_ (tl.drop p) cc.k.data.toList = tp by rw [HTD.out, if_pos hnm])
            clear hnm
            go_wp2_with fail
            go_quiet (fail)
            go_wp2_with fail
            go_quiet (fail)
            go_wp2_with fail
            go_roundw
            case rel => exact ⟨p, by omega, rfl, by rw [HTE.out], by rw [HTE.out], HBI.out.trans ⟨rfl, rfl, rfl, Nat.le_refl _, fun _ _ => rfl⟩⟩
            case measure => simp [intOf]; try omega
          · have hq1 : (tp.name.toList == cc.k.toList) = false := by rw [str_eq, decide_eq_false hnm]
            have HTE := Shut.mk (show tailD_ (tl.drop p) cc.k.data.toList = tq by rw [HTD.out, if_neg hnm])
            clear hnm
            go_wp2_with fail
            go_quiet (fail)
            go_wp2_with fail
            go_roundw
            case rel => exact ⟨p, by omega, rfl, by rw [HTE.out], by rw [HTE.out], HBI.out.trans ⟨rfl, rfl, rfl, Nat.le_refl _, fun _ _ => rfl⟩⟩
            case measure => simp [intOf]; try omega
        · obtain rfl : q = 0 := by omega
          have HTE := Shut.mk (show tq = tailD_ tl cc.k.data.toList by rw [HTQ.out]; rfl)
          have hj0 : (((0 : Nat) : Int) - 1) = -1 := rfl
          rw [hj0]
          clear HTQ hj0
          obtain ⟨kp, hkp⟩ : ∃ kp, kp = tq.keep := ⟨_, rfl⟩
          obtain ⟨tn, htn⟩ : ∃ tn, tn = tq.turn := ⟨_, rfl⟩
          rw [← hkp, ← htn]
          have HKP := Shut.mk hkp
          have HTN := Shut.mk htn
          have HR1 := Shut.mk (HR0.out.below HBI.out)
          have HK1 := Shut.mk (HK0.out.below_ HBI.out)
          obtain ⟨hKe, hKa, hKb⟩ := crash_numD kp tq NE SY hkp hsy hne
          obtain ⟨K, hKK⟩ : ∃ K, K = crashN tq NE SY := ⟨_, rfl⟩
          rw [← hKK] at hKe hKa hKb
          have HKK := Shut.mk hKK
          have HKE := Shut.mk hKe
          have hmem := List.mem_of_getElem? HCC'.out
          have HOC := Shut.mk (HR1.out.rows cc hmem)
          have hba : Below wr.heap.size wr (wr.alloc (.cells #[] 5)) := (Below.refl _ wr).alloc (Nat.le_refl _) _
          have HRC := Shut.mk (show Rd (wr.alloc (.cells #[] 5)) cc.A (bys (cc.b.take K)) from by
            have h9 := HOC.out.below hba fun g hg => HOC.out.block_lt hg
            obtain ⟨A9, c9, e9, h8, _⟩ := h9.form
            have : cc.A = A9 := by unfold RF.v at e9; injection e9
            rw [this]
            exact rd_of_rdB ((rdB_of_rd h8).take K))
          have HTK := Shut.mk (show (cc.b.take K).length = K by rw [List.length_take, ← HNE.out]; omega)
          have HBL := Shut.mk (show (bys (cc.b.take K)).length = K * 1 by rw [bys_length, HTK.out, Nat.mul_one])
          have hcc : NE ≤ cc.cp ∧ cc.cp ≤ 9223372036854775807 := by
            obtain ⟨A9, c9, e9, _, h9, h8, _⟩ := HOC.out.form
            unfold RF.v at e9
            injection e9 with e1 e2 e3
            rw [← e3, ← HNE.out] at h9
            rw [← e3] at h8
            unfold maxLen at h8
            exact ⟨h9, by omega⟩
          obtain ⟨hcc1, hcc2⟩ := hcc
          have HOE := Shut.mk (own_empty wr 5 1)
          have HBA := Shut.mk hba
          have hxa := HFB.out.alloc (.cells #[] 5)
          have g0 : (wr.alloc (.cells #[] 5)).cell? ⟨B, 1, none⟩ = some (.slice cc.A NE cc.cp) := hxa.cell 1
          have hBl := HFB.out.lt
          have hqx2 : (K : Int) ≤ (NE : Int) := by omega
          have hqx3 : K ≤ cc.cp := by omega
          have hs0 := HK1.out.size
          obtain ⟨gr, cpr, hvr, _, _, _⟩ := HR1.out.head (by rw [HRL.out]; omega)
          have HVR := Shut.mk hvr
          have hNr : (.slice (some ⟨gr, 0, none⟩) R'.length cpr : Value) = .slice (some ad) N cr := hvr.symm.trans HV.out
          injection hNr with e1 e2 e3
          injection e1 with e1
          subst e1
          clear hkp htn hKK hKe hba hmem hvr e2 e3 hxa
          go_upto_region 10 with fail
          rw [HKE.out]
          cases htn : tn with
          | false =>
            rw [htn] at HTN
            clear htn
            go_wp2_with (
              at_builtin
              refine wpList_append _ rfl _ _ _ rfl 5 i0 _ 1 1 Tryz.underlying27 hi0 hz0 hz1 hz2 rfl (by decide) _ _ _ rfl HOE.out _ K cc.cp _ rfl HBL.out HRC.out (bys_one _) (by simp only [maxLen]; omega) (by omega) ?_
              intro v9 w9 hap
              obtain ⟨A9, c9, hv9, _⟩ := hap.own.form
              rw [Nat.zero_add] at hv9
              subst hv9
              have HO9 := Shut.mk (hap.own.cast (Nat.zero_add K) (List.nil_append _))
              have hb9 : Below wr.heap.size wr w9 := HBA.out.grown hap.grown HBA.out.size (fun r hr => by cases hr; exact Nat.le_refl _)
              have hl9 : ∀ g', (Value.slice A9 K c9).ownBlock = some g' → wr.heap.size ≤ g' := fun g' hg' => by
                rcases hap.lies with h | h
                · rw [h] at hg'; cases hg'; exact Nat.le_refl _
                · rw [h] at hg'; injection hg' with hg'; rw [← hg']; exact HBA.out.size
              have HR9 := Shut.mk (HR1.out.below hb9)
              have HK9 := Shut.mk (HK1.out.below_ hb9)
              have hfb9 := HFB.out.below hb9 hBl
              have HF9 := Shut.mk hfb9
              have k2 : w9.cell? ⟨B, 2, none⟩ = some (.int .i64 (SY : Int)) := hfb9.cell 2
              have HL9 := Shut.mk hl9
              clear hap hb9 hl9 hfb9)
            all_goals (
              have e9 : (Value.slice A9 K c9) = .slice A9 (cc.b.take K).length c9 := by rw [HTK.out]
              have HOX := Shut.mk (show Own w9 5 1 (.slice A9 (cc.b.take K).length c9) (cc.b.take K).length (bys (cc.b.take K)) from by rw [← e9]; exact HO9.out.cast (HTK.out).symm rfl)
              have HT1 := Shut.mk (HR9.out.turnbs HCC'.out HV.out HOX.out K)
              have HT2 := Shut.mk (HR9.out.turnsb HCC'.out HV.out HOX.out K)
              rw [← e9] at HT1 HT2
              have r0 : w9.cell? ⟨gx, 0, none⟩ = some (.slice (some ⟨gr, 0, none⟩) N cr) := by rw [← HV.out]; exact HR9.out.blk.cell 0
              obtain ⟨gx9, cx9, hvx, _, _, hcellx⟩ := HR9.out.head (by rw [HRL.out]; omega)
              have hgq : gx9 = gr := by
                have hvy := hvx.symm.trans HV.out
                injection hvy with e1
                injection e1 with e1
                injection e1
              rw [hgq] at hcellx
              have r1 : w9.cell? ⟨gr, k * 3 + 1, none⟩ = some (.slice cc.A NE cc.cp) := by rw [HNE.out]; exact hcellx (k * 3 + 1) _ (rfs_get HCC'.out 1 (by omega))
              have r2 : w9.cell? ⟨gr, k * 3 + 2, none⟩ = some (.int .i64 (SY : Int)) := by rw [HSY.out]; exact hcellx (k * 3 + 2) _ (rfs_get HCC'.out 2 (by omega))
              have HFR := Shut.mk (show ∀ j, w9.frozen? ⟨gr, j, none⟩ = false from fun j => by
                have := HR9.out.own
                rw [HV.out, HRL.out] at this
                exact this.freeAt j)
              have z1 := HFR.out (k * 3 + 1)
              have z2 := HFR.out (k * 3 + 2)
              have HGF := Shut.mk (show gr ∈ footD gx v R from footD_row (by rw [HV.out]; rfl))
              have HKa := Shut.mk (fun (u u' : Value) (i j : Nat) => ((HK9.out.setCell (p := ⟨gr, i, none⟩) HGF.out u).setCell (p := ⟨gr, j, none⟩) HGF.out u'))
              have HCR := Shut.mk (show RF.fl ⟨cc.k, A9, c9, cc.b.take K, K⟩ = crashR (tailD_ tl) cc.fl from by
                unfold RF.fl crashR
                simp only []
                rw [← HTE.out, ← HNE.out, ← HSY.out, ← HKK.out]
                congr 2
                unfold crashB
                rw [← HNE.out, ← HKK.out, ← HTN.out, if_neg (by simp)])
              have HNF := Shut.mk (show (R'.set k ⟨cc.k, A9, c9, cc.b.take K, K⟩).map RF.fl = (((R.map RF.fl).take (k + 1)).map (crashR (tailD_ tl))) ++ (R.map RF.fl).drop (k + 1) from by
                rw [List.map_set, HFL.out, HCR.out]
                exact crash_step (by rw [List.getElem?_map, HCC.out]; rfl) _)
              have HSM2 := Shut.mk (show ∀ j, k + 1 ≤ j → (R'.set k ⟨cc.k, A9, c9, cc.b.take K, K⟩)[j]? = R[j]? from fun j hj => by
                rw [List.getElem?_set_ne (by omega)]
                exact HSM.out j (by omega))
              have HOW2 := Shut.mk (show ∀ c ∈ R'.set k ⟨cc.k, A9, c9, cc.b.take K, K⟩, ∀ g, c.v.ownBlock = some g → g ∈ footD gx v R ∨ w.heap.size ≤ g from fun c hc g' hg' => by
                rcases List.mem_or_eq_of_mem_set hc with hc | rfl
                · exact HOW.out c hc g' hg'
                · exact .inr (Nat.le_trans hs0 (HL9.out g' (by rw [e9]; exact hg'))))
              have HLL := Shut.mk (show (R'.set k ⟨cc.k, A9, c9, cc.b.take K, K⟩).length = N from by rw [List.length_set, HRL.out])
              clear hvx hgq hcellx e9
              go_wp2_with fail
              go_region
              all_goals (
                go_wp2_with fail
                go_roundw
                case rel => first
                  | exact ⟨k + 1, R'.set k ⟨cc.k, A9, c9, cc.b.take K, K⟩, by omega, by go_num, HLL.out, HT1.out.below ⟨rfl, rfl, rfl, Nat.le_refl _, fun _ _ => rfl⟩, HNF.out, HSM2.out, HOW2.out, (HKa.out _ _ _ _).below_ ⟨rfl, rfl, rfl, Nat.le_refl _, fun _ _ => rfl⟩⟩
                  | exact ⟨k + 1, R'.set k ⟨cc.k, A9, c9, cc.b.take K, K⟩, by omega, by go_num, HLL.out, HT2.out.below ⟨rfl, rfl, rfl, Nat.le_refl _, fun _ _ => rfl⟩, HNF.out, HSM2.out, HOW2.out, (HKa.out _ _ _ _).below_ ⟨rfl, rfl, rfl, Nat.le_refl _, fun _ _ => rfl⟩⟩
                case measure => simp [intOf]; try omega))
          | true =>
            rw [htn] at HTN
            clear htn
            by_cases hgt : SY < K
            · have hgtI : (K : Int) > (SY : Int) := by omega
              obtain ⟨m, hm⟩ : ∃ m, K = m + 1 := ⟨K - 1, by omega⟩
              have HM := Shut.mk hm
              have hmi0 : (0 : Int) ≤ (K : Int) - 1 := by omega
              have hwm : IntKind.i64.wrap ((K : Int) - 1) = (m : Int) := by rw [IntKind.wrap_i64]; omega
              have hmK : (m : Int) < (K : Int) := by omega
              clear hm
              go_wp2_with (
                at_builtin
                refine wpList_append _ rfl _ _ _ rfl 5 i0 _ 1 1 Tryz.underlying27 hi0 hz0 hz1 hz2 rfl (by decide) _ _ _ rfl HOE.out _ K cc.cp _ rfl HBL.out HRC.out (bys_one _) (by simp only [maxLen]; omega) (by omega) ?_
                intro v9 w9 hap
                obtain ⟨A9, c9, hv9, _⟩ := hap.own.form
                rw [Nat.zero_add] at hv9
                subst hv9
                have HO9 := Shut.mk (hap.own.cast (Nat.zero_add K) (List.nil_append _))
                have hb9 : Below wr.heap.size wr w9 := HBA.out.grown hap.grown HBA.out.size (fun r hr => by cases hr; exact Nat.le_refl _)
                have hl9 : ∀ g', (Value.slice A9 K c9).ownBlock = some g' → wr.heap.size ≤ g' := fun g' hg' => by
                  rcases hap.lies with h | h
                  · rw [h] at hg'; cases hg'; exact Nat.le_refl _
                  · rw [h] at hg'; injection hg' with hg'; rw [← hg']; exact HBA.out.size
                have HR9 := Shut.mk (HR1.out.below hb9)
                have HK9 := Shut.mk (HK1.out.below_ hb9)
                have hfb9 := HFB.out.below hb9 hBl
                have HF9 := Shut.mk hfb9
                have k2 : w9.cell? ⟨B, 2, none⟩ = some (.int .i64 (SY : Int)) := hfb9.cell 2
                have HL9 := Shut.mk hl9
                clear hap hb9 hl9 hfb9
                obtain ⟨ag, cag, hag, _⟩ := HO9.out.head (by omega)
                injection hag with hag1 _ hag3
                subst hag1
                subst hag3
                have HML := Shut.mk (show m < (cc.b.take K).length by rw [HTK.out]; omega)
                obtain ⟨x, hx⟩ : ∃ x, x = (cc.b.take K).getD m 0 := ⟨_, rfl⟩
                have HXX := Shut.mk hx
                have b0 : w9.cell? ⟨ag, m, none⟩ = some (.int .u8 (x.toNat : Int)) := by rw [HXX.out]; exact HO9.out.cell m (bys_get _ m HML.out)
                have bz := HO9.out.free m
                have hxo := xor_one x
                clear hx)
              all_goals (
                have hxn : (x ^^^ 1).toNat = x.toNat ^^^ 1 := rfl
                have hO := HO9.out.set m (.int .u8 ((x ^^^ 1).toNat : Int))
                rw [← bys_set, hxn] at hO
                have hagn : ∀ y ∈ footD gx v R', y ∉ [ag] := fun y hy hc => by
                  have h1 := HR1.out.lt hy
                  have h2 := HL9.out ag rfl
                  rw [List.mem_singleton.1 hc] at h1
                  omega
                have hka : Kb w9 (w9.setCell ⟨ag, m, none⟩ (.int .u8 ((x.toNat ^^^ 1 : Nat) : Int))) [ag] := (Kb.refl w9 _).setCell (by simp) _
                have hRk := HR9.out.keep hka hagn
                have hKk := HK9.out.trans hka (fun y hy => .inr (by
                  rw [List.mem_singleton.1 hy]
                  exact Nat.le_trans hs0 (HL9.out ag rfl)))
                generalize w9.setCell ⟨ag, m, none⟩ (.int .u8 ((x.toNat ^^^ 1 : Nat) : Int)) = w11 at hO hRk hKk ⊢
                have HO11 := Shut.mk hO
                have HR11 := Shut.mk hRk
                have HK11 := Shut.mk hKk
                clear hO hRk hKk hka hagn hxn b0 bz hxo
                have e9 : (Value.slice (some ⟨ag, 0, none⟩) K c9) = .slice (some ⟨ag, 0, none⟩) ((cc.b.take K).set m (x ^^^ 1)).length c9 := by rw [List.length_set, HTK.out]
                have HOX := Shut.mk (show Own w11 5 1 (.slice (some ⟨ag, 0, none⟩) ((cc.b.take K).set m (x ^^^ 1)).length c9) ((cc.b.take K).set m (x ^^^ 1)).length (bys ((cc.b.take K).set m (x ^^^ 1))) from by rw [← e9]; exact HO11.out.cast (by rw [List.length_set, HTK.out]) rfl)
                have HT1 := Shut.mk (HR11.out.turnbs HCC'.out HV.out HOX.out K)
                have HT2 := Shut.mk (HR11.out.turnsb HCC'.out HV.out HOX.out K)
                rw [← e9] at HT1 HT2
                have r0 : w11.cell? ⟨gx, 0, none⟩ = some (.slice (some ⟨gr, 0, none⟩) N cr) := by rw [← HV.out]; exact HR11.out.blk.cell 0
                obtain ⟨gx9, cx9, hvx, _, _, hcellx⟩ := HR11.out.head (by rw [HRL.out]; omega)
                have hgq : gx9 = gr := by
                  have hvy := hvx.symm.trans HV.out
                  injection hvy with e1
                  injection e1 with e1
                  injection e1
                rw [hgq] at hcellx
                have r1 : w11.cell? ⟨gr, k * 3 + 1, none⟩ = some (.slice cc.A NE cc.cp) := by rw [HNE.out]; exact hcellx (k * 3 + 1) _ (rfs_get HCC'.out 1 (by omega))
                have r2 : w11.cell? ⟨gr, k * 3 + 2, none⟩ = some (.int .i64 (SY : Int)) := by rw [HSY.out]; exact hcellx (k * 3 + 2) _ (rfs_get HCC'.out 2 (by omega))
                have HFR := Shut.mk (show ∀ j, w11.frozen? ⟨gr, j, none⟩ = false from fun j => by
                  have := HR11.out.own
                  rw [HV.out, HRL.out] at this
                  exact this.freeAt j)
                have z1 := HFR.out (k * 3 + 1)
                have z2 := HFR.out (k * 3 + 2)
                have HGF := Shut.mk (show gr ∈ footD gx v R from footD_row (by rw [HV.out]; rfl))
                have HKa := Shut.mk (fun (u u' : Value) (i j : Nat) => ((HK11.out.setCell (p := ⟨gr, i, none⟩) HGF.out u).setCell (p := ⟨gr, j, none⟩) HGF.out u'))
                have HCR := Shut.mk (show RF.fl ⟨cc.k, (some ⟨ag, 0, none⟩), c9, (cc.b.take K).set m (x ^^^ 1), K⟩ = crashR (tailD_ tl) cc.fl from by
                  unfold RF.fl crashR
                  simp only []
                  rw [← HTE.out, ← HNE.out, ← HSY.out, ← HKK.out]
                  congr 2
                  unfold crashB
                  rw [← HNE.out, ← HKK.out, ← HTN.out, if_pos ⟨rfl, hgt⟩]
                  have hk1 : K - 1 = m := by have := HM.out; omega
                  rw [hk1, HXX.out]
                  congr 2
                  rw [List.getD_eq_getElem?_getD, List.getD_eq_getElem?_getD, List.getElem?_take, if_pos (by have := HM.out; omega)])
                have HNF := Shut.mk (show (R'.set k ⟨cc.k, (some ⟨ag, 0, none⟩), c9, (cc.b.take K).set m (x ^^^ 1), K⟩).map RF.fl = (((R.map RF.fl).take (k + 1)).map (crashR (tailD_ tl))) ++ (R.map RF.fl).drop (k + 1) from by
                  rw [List.map_set, HFL.out, HCR.out]
                  exact crash_step (by rw [List.getElem?_map, HCC.out]; rfl) _)
                have HSM2 := Shut.mk (show ∀ j, k + 1 ≤ j → (R'.set k ⟨cc.k, (some ⟨ag, 0, none⟩), c9, (cc.b.take K).set m (x ^^^ 1), K⟩)[j]? = R[j]? from fun j hj => by
                  rw [List.getElem?_set_ne (by omega)]
                  exact HSM.out j (by omega))
                have HOW2 := Shut.mk (show ∀ c ∈ R'.set k ⟨cc.k, (some ⟨ag, 0, none⟩), c9, (cc.b.take K).set m (x ^^^ 1), K⟩, ∀ g, c.v.ownBlock = some g → g ∈ footD gx v R ∨ w.heap.size ≤ g from fun c hc g' hg' => by
                  rcases List.mem_or_eq_of_mem_set hc with hc | rfl
                  · exact HOW.out c hc g' hg'
                  · exact .inr (Nat.le_trans hs0 (HL9.out g' (by rw [e9]; exact hg'))))
                have HLL := Shut.mk (show (R'.set k ⟨cc.k, (some ⟨ag, 0, none⟩), c9, (cc.b.take K).set m (x ^^^ 1), K⟩).length = N from by rw [List.length_set, HRL.out])
                clear hvx hgq hcellx e9
                go_wp2_with fail
                go_region
                all_goals (
                  go_wp2_with fail
                  go_roundw
                  case rel => first
                    | exact ⟨k + 1, R'.set k ⟨cc.k, (some ⟨ag, 0, none⟩), c9, (cc.b.take K).set m (x ^^^ 1), K⟩, by omega, by go_num, HLL.out, HT1.out.below ⟨rfl, rfl, rfl, Nat.le_refl _, fun _ _ => rfl⟩, HNF.out, HSM2.out, HOW2.out, (HKa.out _ _ _ _).below_ ⟨rfl, rfl, rfl, Nat.le_refl _, fun _ _ => rfl⟩⟩
                    | exact ⟨k + 1, R'.set k ⟨cc.k, (some ⟨ag, 0, none⟩), c9, (cc.b.take K).set m (x ^^^ 1), K⟩, by omega, by go_num, HLL.out, HT2.out.below ⟨rfl, rfl, rfl, Nat.le_refl _, fun _ _ => rfl⟩, HNF.out, HSM2.out, HOW2.out, (HKa.out _ _ _ _).below_ ⟨rfl, rfl, rfl, Nat.le_refl _, fun _ _ => rfl⟩⟩
                  case measure => simp [intOf]; try omega))
            · have hgtI : ¬ (K : Int) > (SY : Int) := by omega
              go_wp2_with (
                at_builtin
                refine wpList_append _ rfl _ _ _ rfl 5 i0 _ 1 1 Tryz.underlying27 hi0 hz0 hz1 hz2 rfl (by decide) _ _ _ rfl HOE.out _ K cc.cp _ rfl HBL.out HRC.out (bys_one _) (by simp only [maxLen]; omega) (by omega) ?_
                intro v9 w9 hap
                obtain ⟨A9, c9, hv9, _⟩ := hap.own.form
                rw [Nat.zero_add] at hv9
                subst hv9
                have HO9 := Shut.mk (hap.own.cast (Nat.zero_add K) (List.nil_append _))
                have hb9 : Below wr.heap.size wr w9 := HBA.out.grown hap.grown HBA.out.size (fun r hr => by cases hr; exact Nat.le_refl _)
                have hl9 : ∀ g', (Value.slice A9 K c9).ownBlock = some g' → wr.heap.size ≤ g' := fun g' hg' => by
                  rcases hap.lies with h | h
                  · rw [h] at hg'; cases hg'; exact Nat.le_refl _
                  · rw [h] at hg'; injection hg' with hg'; rw [← hg']; exact HBA.out.size
                have HR9 := Shut.mk (HR1.out.below hb9)
                have HK9 := Shut.mk (HK1.out.below_ hb9)
                have hfb9 := HFB.out.below hb9 hBl
                have HF9 := Shut.mk hfb9
                have k2 : w9.cell? ⟨B, 2, none⟩ = some (.int .i64 (SY : Int)) := hfb9.cell 2
                have HL9 := Shut.mk hl9
                clear hap hb9 hl9 hfb9)
              all_goals (
                have e9 : (Value.slice A9 K c9) = .slice A9 (cc.b.take K).length c9 := by rw [HTK.out]
                have HOX := Shut.mk (show Own w9 5 1 (.slice A9 (cc.b.take K).length c9) (cc.b.take K).length (bys (cc.b.take K)) from by rw [← e9]; exact HO9.out.cast (HTK.out).symm rfl)
                have HT1 := Shut.mk (HR9.out.turnbs HCC'.out HV.out HOX.out K)
                have HT2 := Shut.mk (HR9.out.turnsb HCC'.out HV.out HOX.out K)
                rw [← e9] at HT1 HT2
                have r0 : w9.cell? ⟨gx, 0, none⟩ = some (.slice (some ⟨gr, 0, none⟩) N cr) := by rw [← HV.out]; exact HR9.out.blk.cell 0
                obtain ⟨gx9, cx9, hvx, _, _, hcellx⟩ := HR9.out.head (by rw [HRL.out]; omega)
                have hgq : gx9 = gr := by
                  have hvy := hvx.symm.trans HV.out
                  injection hvy with e1
                  injection e1 with e1
                  injection e1
                rw [hgq] at hcellx
                have r1 : w9.cell? ⟨gr, k * 3 + 1, none⟩ = some (.slice cc.A NE cc.cp) := by rw [HNE.out]; exact hcellx (k * 3 + 1) _ (rfs_get HCC'.out 1 (by omega))
                have r2 : w9.cell? ⟨gr, k * 3 + 2, none⟩ = some (.int .i64 (SY : Int)) := by rw [HSY.out]; exact hcellx (k * 3 + 2) _ (rfs_get HCC'.out 2 (by omega))
                have HFR := Shut.mk (show ∀ j, w9.frozen? ⟨gr, j, none⟩ = false from fun j => by
                  have := HR9.out.own
                  rw [HV.out, HRL.out] at this
                  exact this.freeAt j)
                have z1 := HFR.out (k * 3 + 1)
                have z2 := HFR.out (k * 3 + 2)
                have HGF := Shut.mk (show gr ∈ footD gx v R from footD_row (by rw [HV.out]; rfl))
                have HKa := Shut.mk (fun (u u' : Value) (i j : Nat) => ((HK9.out.setCell (p := ⟨gr, i, none⟩) HGF.out u).setCell (p := ⟨gr, j, none⟩) HGF.out u'))
                have HCR := Shut.mk (show RF.fl ⟨cc.k, A9, c9, cc.b.take K, K⟩ = crashR (tailD_ tl) cc.fl from by
                  unfold RF.fl crashR
                  simp only []
                  rw [← HTE.out, ← HNE.out, ← HSY.out, ← HKK.out]
                  congr 2
                  unfold crashB
                  rw [← HNE.out, ← HKK.out, ← HTN.out, if_neg (by omega)])
                have HNF := Shut.mk (show (R'.set k ⟨cc.k, A9, c9, cc.b.take K, K⟩).map RF.fl = (((R.map RF.fl).take (k + 1)).map (crashR (tailD_ tl))) ++ (R.map RF.fl).drop (k + 1) from by
                  rw [List.map_set, HFL.out, HCR.out]
                  exact crash_step (by rw [List.getElem?_map, HCC.out]; rfl) _)
                have HSM2 := Shut.mk (show ∀ j, k + 1 ≤ j → (R'.set k ⟨cc.k, A9, c9, cc.b.take K, K⟩)[j]? = R[j]? from fun j hj => by
                  rw [List.getElem?_set_ne (by omega)]
                  exact HSM.out j (by omega))
                have HOW2 := Shut.mk (show ∀ c ∈ R'.set k ⟨cc.k, A9, c9, cc.b.take K, K⟩, ∀ g, c.v.ownBlock = some g → g ∈ footD gx v R ∨ w.heap.size ≤ g from fun c hc g' hg' => by
                  rcases List.mem_or_eq_of_mem_set hc with hc | rfl
                  · exact HOW.out c hc g' hg'
                  · exact .inr (Nat.le_trans hs0 (HL9.out g' (by rw [e9]; exact hg'))))
                have HLL := Shut.mk (show (R'.set k ⟨cc.k, A9, c9, cc.b.take K, K⟩).length = N from by rw [List.length_set, HRL.out])
                clear hvx hgq hcellx e9
                go_wp2_with fail
                go_region
                all_goals (
                  go_wp2_with fail
                  go_roundw
                  case rel => first
                    | exact ⟨k + 1, R'.set k ⟨cc.k, A9, c9, cc.b.take K, K⟩, by omega, by go_num, HLL.out, HT1.out.below ⟨rfl, rfl, rfl, Nat.le_refl _, fun _ _ => rfl⟩, HNF.out, HSM2.out, HOW2.out, (HKa.out _ _ _ _).below_ ⟨rfl, rfl, rfl, Nat.le_refl _, fun _ _ => rfl⟩⟩
                    | exact ⟨k + 1, R'.set k ⟨cc.k, A9, c9, cc.b.take K, K⟩, by omega, by go_num, HLL.out, HT2.out.below ⟨rfl, rfl, rfl, Nat.le_refl _, fun _ _ => rfl⟩, HNF.out, HSM2.out, HOW2.out, (HKa.out _ _ _ _).below_ ⟨rfl, rfl, rfl, Nat.le_refl _, fun _ _ => rfl⟩⟩
                  case measure => simp [intOf]; try omega))
    · obtain rfl : k = N := by omega
      have hkI : ¬ (k : Int) < (k : Int) := by omega
      have HN1 := Shut.mk (HRD.out.num 2 (.int .i64 (-1)) (room' := room) (short' := -1) (fuse' := fuse) rfl)
      have HN2 := Shut.mk (HN1.out.num 3 (.int .i64 (-1)) (room' := room) (short' := -1) (fuse' := -1) rfl)
      have q2 : wr.cell? ⟨gx, 2, none⟩ = some (.int .i64 short) := HRD.out.blk.cell 2
      have q2f := HRD.out.blk.free 2
      have q3 : (wr.setCell ⟨gx, 2, none⟩ (.int .i64 (-1))).cell? ⟨gx, 3, none⟩ = some (.int .i64 fuse) := HN1.out.blk.cell 3
      have q3f := HN1.out.blk.free 3
      have HA := Shut.mk (AfterD.set (w := w) (v := v) (R := R) HN2.out (T' := crashF (fun s => (tailOf tl s).getD zeroT) (R.map RF.fl)) (by
        rw [HFL.out, List.take_of_length_le (by rw [List.length_map, ← HN.out]; exact Nat.le_refl _), List.drop_eq_nil_of_le (by rw [List.length_map, ← HN.out]; exact Nat.le_refl _), List.append_nil]
        rfl) ((HKB.out.setCell (p := ⟨gx, 2, none⟩) gx_foot _).setCell (p := ⟨gx, 3, none⟩) gx_foot _) (fun g hg => .inl hg) HOW.out)
      go_wp2_with fail
      go_end0
      exact ⟨rfl, HA.out⟩
end
end Go.Proofs.YtmlfeljhojmbbaaGreatDoor
