/- Walk: the document's disk: Copy. -/
import Derived.Test.YtjmaimpfplojpaaRd7
import Derived.Deep.RegionHeldLaw
namespace Go.Proofs.Ytjmaimpfplojpaa
open Go.RowKit Go.Maps
set_option linter.unusedSimpArgs false
set_option linter.unusedVariables false
set_option maxRecDepth 100000

theorem copy_put {w wa wb w9 : World} {gc k cap c9 NX : Nat} {A' A9 : Option Addr} {v' : Value} {R' : List RF} {x : RF} {room short fuse : Int} (h : RdAt wa gc v' R' room short fuse) (hb : Below wa.heap.size wa wb) (hv : v' = .slice A' k cap)
    (ho : Own w9 89 3 (.slice A9 (k + 1) c9) (k + 1) (rfs R' ++ [.string x.k, .slice x.A NX x.cp, .int .i64 (x.syn : Int)])) (hg : wb.grownBy w9 (Value.slice A' k cap).ownBlock) (hl : (Value.slice A9 (k + 1) c9).ownBlock = (Value.slice A' k cap).ownBlock ∨ (Value.slice A9 (k + 1) c9).ownBlock = some wb.heap.size)
    (hbc : Blk w9 gc 87 #[v', .int .i64 room, .int .i64 short, .int .i64 fuse]) (hk : k = R'.length) (hx : Own wb 5 1 (.slice x.A NX x.cp) NX (bys x.b)) (hxl : ∀ g, (Value.slice x.A NX x.cp).ownBlock = some g → wa.heap.size ≤ g) (hw : w.heap.size ≤ wa.heap.size)
    (hft : ∀ y ∈ footD gc v' R', w.heap.size ≤ y) (hbw : Below w.heap.size w wa) (hNX : NX = x.b.length) :
    RdAt (w9.setCell ⟨gc, 0, none⟩ (.slice A9 (k + 1) c9)) gc (.slice A9 (k + 1) c9) (R' ++ [x]) room short fuse ∧ (∀ y ∈ footD gc (.slice A9 (k + 1) c9) (R' ++ [x]), w.heap.size ≤ y) ∧ Below w.heap.size w (w9.setCell ⟨gc, 0, none⟩ (.slice A9 (k + 1) c9)) := by
  subst hNX
  have hks : Kb w9 (w9.setCell ⟨gc, 0, none⟩ (.slice A9 (k + 1) c9)) [gc] := (Kb.refl w9 _).setCell (by simp) _
  have hws := hb.size
  refine ⟨⟨hbc.set_ 0 _, ?_, fun c hc => ?_⟩, fun y hy => ?_, ?_⟩
  · refine (hks.own ho fun g hg => by simpa using own_block_ne ho hbc (by decide) g hg).cast (by rw [List.length_append, ← hk]; rfl) (by rw [rfs_append]; rfl)
  · have h1 : Own w9 5 1 c.v c.b.length (bys c.b) := by
      have h2 : Own wb 5 1 c.v c.b.length (bys c.b) := by
        rcases List.mem_append.1 hc with hc | hc
        · exact (h.rows c hc).below hb fun g hg => (h.rows c hc).block_lt hg
        · rw [List.mem_singleton.1 hc]
          exact hx
      have ho2 : Own wb 89 3 v' R'.length (rfs R') := h.own.below hb fun g hg => h.own.block_lt hg
      refine h2.grown hg fun g hg2 e => ?_
      exact own_types_ne h2 ho2 (by decide) g hg2 (by rw [hv]; exact e)
    exact hks.own h1 fun g hg => by simpa using own_block_ne h1 hbc (by decide) g hg
  · rcases footD_cases hy with rfl | hy | ⟨c, hc, hy⟩
    · exact hft _ (by simp [footD])
    · rcases hl with e | e
      · exact hft y (footD_row (by rw [hv, ← e]; exact hy))
      · rw [e] at hy
        injection hy with hy
        omega
    · rcases List.mem_append.1 hc with hc | hc
      · exact hft y (footD_own hc hy)
      · rw [List.mem_singleton.1 hc] at hy
        have := hxl y hy
        omega
  · have h1 : Below w.heap.size w w9 := (hbw.trans (hb.mono hw)).grown hg (by omega) (fun r hr => hft r (footD_row (by rw [hv]; exact hr)))
    exact h1.grown (row := some gc) ⟨rfl, rfl, rfl, by simp, fun b hb hne => Below.heap_setCell w9 _ _ b (fun e => hne (by rw [e]))⟩ h1.size (fun r hr => by cases hr; exact hft gc (by simp [footD]))
section
variable {w : World} {gx : Nat} {v : Value} {R : List RF} {room short fuse : Int}
set_option maxHeartbeats 4000000 in
theorem rcopy_calls (hR : RdAt w gx v R room short fuse) (hl : R.length < 900000) (hlen : ∀ c ∈ R, c.b.length ≤ 1048576) :
    Calls Try.prog 29 #[.pointer (some ⟨gx, 0, none⟩)] w fun e w' => ∃ gc v' R', e = .returned (.pointer (some ⟨gc, 0, none⟩)) ∧ RdAt w' gc v' R' room short fuse ∧ R'.map RF.fl = R.map RF.fl ∧ Below w.heap.size w w' ∧ ∀ x ∈ footD gc v' R', w.heap.size ≤ x := by
  obtain ⟨i0, hi0, hz0, hz1, hz2⟩ := info_parts info_u8
  obtain ⟨j0, hj0, hy0, hy1, hy2⟩ := info_parts info_rf
  obtain ⟨N, hN⟩ : ∃ N, N = R.length := ⟨_, rfl⟩
  have ho := hR.own
  rw [← hN] at ho hl
  obtain ⟨Ar, cr, hv, hrd, hac, hcm, _⟩ := ho.form
  have q0 : w.cell? ⟨gx, 0, none⟩ = some (.slice Ar N cr) := by rw [← hv]; exact hR.blk.cell 0
  have q1 : w.cell? ⟨gx, 1, none⟩ = some (.int .i64 room) := hR.blk.cell 1
  have q2 : w.cell? ⟨gx, 2, none⟩ = some (.int .i64 short) := hR.blk.cell 2
  have q3 : w.cell? ⟨gx, 3, none⟩ = some (.int .i64 fuse) := hR.blk.cell 3
  have HRD := Shut.mk hrd
  have HN := Shut.mk hN
  have HR := Shut.mk hR
  have HLEN := Shut.mk hlen
  have HC0 := Shut.mk (show RdAt (w.alloc (.cells #[.slice none 0 0, .int .i64 room, .int .i64 short, .int .i64 fuse] 87)).drew w.heap.size (.slice none 0 0) [] room short fuse from ⟨Blk.new w _ _, Own.nil _ _ _, by simp⟩)
  have HL0 := Shut.mk (show Below w.heap.size w (w.alloc (.cells #[.slice none 0 0, .int .i64 room, .int .i64 short, .int .i64 fuse] 87)).drew from ((Below.refl _ w).alloc (Nat.le_refl _) _).trans ⟨rfl, rfl, rfl, Nat.le_refl _, fun _ _ => rfl⟩)
  have e0 : (w.alloc (.cells #[.slice none 0 0, .int .i64 room, .int .i64 short, .int .i64 fuse] 87)).drew.cell? ⟨gx, 0, none⟩ = some (.slice Ar N cr) := (HL0.out.cell (World.block_lt_of_cell? w _ q0)).trans q0
  unfold maxLen at hcm
  clear hR hlen hv hN ho hrd
  go_enter Try.func29, Try.ntmps29
  go_wp2_with fail
  go_region
  generalize (w.alloc (.cells #[.slice none 0 0, .int .i64 room, .int .i64 short, .int .i64 fuse] 87)).drew = W0 at HC0 HL0 e0 ⊢
  obtain ⟨GC, hGC⟩ : ∃ GC, GC = w.heap.size := ⟨_, rfl⟩
  rw [← hGC] at HC0 ⊢
  have HGC := Shut.mk hGC
  clear hGC q0 q1 q2 q3
  go_wp2_with fail
  go_loopw [25] (fun i wr => ∃ (k : Nat) (v' : Value) (R' : List RF), k ≤ N ∧ i = .int .i64 k ∧ RdAt wr GC v' R' room short fuse ∧ R'.map RF.fl = (R.take k).map RF.fl ∧ (∀ x ∈ footD GC v' R', w.heap.size ≤ x) ∧ Below w.heap.size w wr) (fun i _ => N - (intOf i).toNat)
  case atStart => exact ⟨0, _, [], Nat.zero_le _, rfl, HC0.out, by simp, by
    intro x hx
    have := HGC.out
    simp [footD, Value.ownBlock] at hx
    omega, HL0.out⟩
  case round =>
    obtain ⟨k, v', R', hk, rfl, hCr, hfl, hft, hbr⟩ := hrel
    have HCR := Shut.mk hCr
    have HFL := Shut.mk hfl
    have HFT := Shut.mk hft
    have HBR := Shut.mk hbr
    have hRl : R'.length = k := by
      have := congrArg List.length hfl
      rw [List.length_map, List.length_map, List.length_take, ← HN.out] at this
      omega
    have HRL := Shut.mk hRl
    clear hCr hfl hft hRl
    by_cases hlt : k < N
    · obtain ⟨cc, hcc⟩ : ∃ cc, R[k]? = some cc := ⟨R[k]'(by rw [← HN.out]; exact hlt), List.getElem?_eq_getElem _⟩
      have hmem := List.mem_of_getElem? hcc
      have hne := HLEN.out cc hmem
      obtain ⟨ad, rfl, d0, d1, d2⟩ := rf_cells HRD.out hcc hbr
      have hkI : (k : Int) < (N : Int) := by omega
      obtain ⟨NE, hNE⟩ : ∃ NE, NE = cc.b.length := ⟨_, rfl⟩
      rw [← hNE] at hne d1
      have HNE := Shut.mk hNE
      clear hNE
      have ho := HCR.out.own
      rw [HRL.out] at ho
      obtain ⟨A', c', hv', _⟩ := ho.form
      have HV := Shut.mk hv'
      have HO := Shut.mk (by rw [hv'] at ho; exact ho : Own wr 89 3 (.slice A' k c') k (rfs R'))
      obtain ⟨B, hB⟩ : ∃ B, B = wr.heap.size := ⟨_, rfl⟩
      have hba0 : Below wr.heap.size wr (wr.alloc (.cells #[.string cc.k, .slice cc.A NE cc.cp, .int .i64 (cc.syn : Int)] 89)) := (Below.refl _ wr).alloc (Nat.le_refl _) _
      have HF0 := Shut.mk (Blk.new wr 89 #[.string cc.k, .slice cc.A NE cc.cp, .int .i64 (cc.syn : Int)])
      have HBA := Shut.mk hba0
      have HOC := Shut.mk ((HR.out.rows cc hmem).below hbr fun g hg => (HR.out.rows cc hmem).block_lt hg)
      have HTK := Shut.mk (take_at hcc)
      go_wp2_with fail
      rw [← hB] at HF0 ⊢
      have HWA := Shut.mk (show (wr.alloc (.cells #[.string cc.k, .slice cc.A NE cc.cp, .int .i64 (cc.syn : Int)] 89)).heap.size = B + 1 from by rw [hB]; simp)
      have HBW := Shut.mk hB
      generalize wr.alloc (.cells #[.string cc.k, .slice cc.A NE cc.cp, .int .i64 (cc.syn : Int)] 89) = wa at HF0 HBA HWA ⊢
      have HC1 := Shut.mk (HCR.out.below HBA.out)
      have HOC1 := Shut.mk (HOC.out.below HBA.out fun g hg => HOC.out.block_lt hg)
      have HO1 := Shut.mk (HO.out.below HBA.out fun g hg => HO.out.block_lt hg)
      have c0 : wa.cell? ⟨GC, 0, none⟩ = some (.slice A' k c') := by rw [← HV.out]; exact HC1.out.blk.cell 0
      have f0 : wa.cell? ⟨B, 0, none⟩ = some (.string cc.k) := HF0.out.cell 0
      have f1 : wa.cell? ⟨B, 1, none⟩ = some (.slice cc.A NE cc.cp) := HF0.out.cell 1
      have f2 : wa.cell? ⟨B, 2, none⟩ = some (.int .i64 (cc.syn : Int)) := HF0.out.cell 2
      have hb2 : Below wa.heap.size wa (wa.alloc (.cells #[] 5)).drew := by have := (Below.refl _ wa).alloc (Nat.le_refl _) (.cells #[] 5); exact ⟨this.os, this.tape, this.output, this.size, this.block⟩
      have g0 : (wa.alloc (.cells #[] 5)).cell? ⟨GC, 0, none⟩ = some (.slice A' k c') := (World.cell?_alloc_lt wa _ _ (World.block_lt_of_cell? wa _ c0)).trans c0
      have g1 : (wa.alloc (.cells #[] 5)).cell? ⟨B, 0, none⟩ = some (.string cc.k) := (World.cell?_alloc_lt wa _ _ (World.block_lt_of_cell? wa _ f0)).trans f0
      have g2 : (wa.alloc (.cells #[] 5)).cell? ⟨B, 1, none⟩ = some (.slice cc.A NE cc.cp) := (World.cell?_alloc_lt wa _ _ (World.block_lt_of_cell? wa _ f1)).trans f1
      have g3 : (wa.alloc (.cells #[] 5)).cell? ⟨B, 2, none⟩ = some (.int .i64 (cc.syn : Int)) := (World.cell?_alloc_lt wa _ _ (World.block_lt_of_cell? wa _ f2)).trans f2
      have HOE := Shut.mk (show Own (wa.alloc (.cells #[] 5)).drew 5 1 (.slice (some ⟨wa.heap.size, 0, none⟩) 0 0) 0 [] from own_empty wa _ _)
      have HRC := Shut.mk (show Rd (wa.alloc (.cells #[] 5)).drew cc.A (bys cc.b) from by
        have h9 := HOC1.out.below hb2 fun g hg => HOC1.out.block_lt hg
        obtain ⟨A9, c9, e9, h8, _⟩ := h9.form
        have : cc.A = A9 := by unfold RF.v at e9; injection e9
        rw [this]
        exact h8)
      have HCL := Shut.mk (show (bys cc.b).length = NE * 1 by rw [bys_length, HNE.out, Nat.mul_one])
      have HB2 := Shut.mk hb2
      have hsw : w.heap.size ≤ wa.heap.size := by have := HBR.out.size; have := HBA.out.size; omega
      have hgcl := World.block_lt_of_cell? _ _ c0
      have hbl := World.block_lt_of_cell? _ _ f0
      have HX0 := Shut.mk c0
      have HFN := Shut.mk (show ∀ g, (Value.slice A' k c').ownBlock = some g → g ≠ B from fun g hg e => by
        have := HO.out.block_lt hg
        have := HBW.out
        omega)
      clear hb2 hba0 hB hcc hmem d0 d1 d2 ho hv' hbr
      refine wp_region_held_drew (S := (fun w' => w'.cell? ⟨B, 0, none⟩ = some (.string cc.k) ∧ w'.cell? ⟨B, 1, none⟩ = some (.slice cc.A NE cc.cp) ∧ w'.cell? ⟨B, 2, none⟩ = some (.int .i64 (cc.syn : Int)))) (by kernel_rfl) ?_ (fun hHeld => ?_)
      · try dsimp only
        (first | exact ⟨f0, f1, f2⟩ | exact ⟨g1, g2, g3⟩ | exact ⟨k0, k1, k2⟩ | exact ⟨y1, y2, y3⟩ | exact ⟨z1, z2, z3⟩ | exact ⟨s1, s2, s3⟩ | go_keep)
      refine wpAnyH_take (i := 0) (oi := _) (v := ?_) rfl (by kernel_rfl) (by kernel_rfl) (by kernel_rfl) (fun _ _ _ h => h) (Or.inl ⟨by rfl, ?_⟩) (by assumption) ?_
      rotate_left
      · intro w hSw
        (try dsimp only at hSw)
        go_simp
        first | done | with_reducible rfl
      try simp only [Act.put, List.setIfInBounds_toArray, List.set_cons_zero, List.set_cons_succ]
      refine wpAnyH_take (i := 1) (oi := _) (v := ?_) rfl (by kernel_rfl) (by kernel_rfl) (by kernel_rfl) (fun _ _ _ h => h) (Or.inl ⟨by rfl, ?_⟩) (by assumption) ?_
      rotate_left
      · intro w hSw
        (try dsimp only at hSw)
        go_simp
        first | done | with_reducible rfl
      try simp only [Act.put, List.setIfInBounds_toArray, List.set_cons_zero, List.set_cons_succ]
      refine wpAnyH_take (i := 2) (oi := _) (v := ?_) rfl (by kernel_rfl) (by kernel_rfl) (by kernel_rfl) (fun _ _ _ h => h) (Or.inl ⟨by rfl, ?_⟩) (by assumption) ?_
      rotate_left
      · intro w hSw
        (try dsimp only at hSw)
        go_simp
        first | done | with_reducible rfl
      try simp only [Act.put, List.setIfInBounds_toArray, List.set_cons_zero, List.set_cons_succ]
      refine wpAnyH_take (i := 3) (oi := _) (v := ?_) rfl (by kernel_rfl) (by kernel_rfl) (by kernel_rfl) (fun _ _ _ h => h) (Or.inl ⟨by rfl, ?_⟩) (by assumption) ?_
      rotate_left
      · intro w hSw
        (try dsimp only at hSw)
        go_simp
        first | done | with_reducible rfl
      try simp only [Act.put, List.setIfInBounds_toArray, List.set_cons_zero, List.set_cons_succ]
      refine wpAnyH_take (i := 5) (oi := _) (v := ?_) rfl (by kernel_rfl) (by kernel_rfl) (by kernel_rfl) (fun _ _ _ h => h) (Or.inl ⟨by rfl, ?_⟩) (by assumption) ?_
      rotate_left
      · intro w hSw
        (try dsimp only at hSw)
        go_simp
        first | done | with_reducible rfl
      try simp only [Act.put, List.setIfInBounds_toArray, List.set_cons_zero, List.set_cons_succ]
      refine wpAnyH_take (i := 6) (oi := _) (v := ?_) rfl (by kernel_rfl) (by kernel_rfl) (by kernel_rfl) (fun _ _ _ h => h) (Or.inl ⟨by rfl, ?_⟩) (by assumption) ?_
      rotate_left
      · intro w hSw
        (try dsimp only at hSw)
        go_simp
        first | done | with_reducible rfl
      try simp only [Act.put, List.setIfInBounds_toArray, List.set_cons_zero, List.set_cons_succ]
      refine wpAnyH_take (i := 8) (oi := _) (v := ?_) rfl (by kernel_rfl) (by kernel_rfl) (by kernel_rfl) (fun _ _ _ h => h) (Or.inl ⟨by rfl, ?_⟩) (by assumption) ?_
      rotate_left
      · intro w hSw
        (try dsimp only at hSw)
        go_simp
        first | done | with_reducible rfl
      try simp only [Act.put, List.setIfInBounds_toArray, List.set_cons_zero, List.set_cons_succ]
      refine wpAnyH_take (i := 9) (oi := _) (v := ?_) rfl (by kernel_rfl) (by kernel_rfl) (by kernel_rfl) (fun _ _ _ h => h) (Or.inl ⟨by rfl, ?_⟩) (by assumption) ?_
      rotate_left
      · intro w hSw
        (try dsimp only at hSw)
        go_simp
        first | done | with_reducible rfl
      try simp only [Act.put, List.setIfInBounds_toArray, List.set_cons_zero, List.set_cons_succ]
      refine wpAnyH_take (i := 11) (oi := _) (v := ?_) rfl (by kernel_rfl) (by kernel_rfl) (by kernel_rfl) (fun _ _ _ h => h) (Or.inl ⟨by rfl, ?_⟩) (by assumption) ?_
      rotate_left
      · intro w hSw
        (try dsimp only at hSw)
        go_simp
        first | done | with_reducible rfl
      try simp only [Act.put, List.setIfInBounds_toArray, List.set_cons_zero, List.set_cons_succ]
      refine wpAnyH_take (i := 12) (oi := _) (v := ?_) rfl (by kernel_rfl) (by kernel_rfl) (by kernel_rfl) (fun _ _ _ h => h) (Or.inl ⟨by rfl, ?_⟩) (by assumption) ?_
      rotate_left
      · intro w hSw
        (try dsimp only at hSw)
        go_simp
        first | done | with_reducible rfl
      try simp only [Act.put, List.setIfInBounds_toArray, List.set_cons_zero, List.set_cons_succ]
      refine wpAnyH_ready (rs := [4, 7]) (by kernel_rfl) (by simp) ?_
      refine AllReadyH.cons rfl (fun K hK => ?_) (AllReadyH.cons rfl (fun K hK => ?_) AllReadyH.nil)
      · skip
        go_simp
        refine hK.out _ _ ?_ (fun hHeld => ?_)
        · try dsimp only
          (first | exact ⟨f0, f1, f2⟩ | exact ⟨g1, g2, g3⟩ | exact ⟨k0, k1, k2⟩ | exact ⟨y1, y2, y3⟩ | exact ⟨z1, z2, z3⟩ | exact ⟨s1, s2, s3⟩ | go_keep)
        clear hK K
        refine wpAnyH_ready (rs := [7]) (by kernel_rfl) (by simp) ?_
        refine AllReadyH.cons rfl (fun K hK => ?_) AllReadyH.nil
        go_simp
        refine hK.out _ _ ?_ (fun hHeld => ?_)
        · try dsimp only
          (first | exact ⟨f0, f1, f2⟩ | exact ⟨g1, g2, g3⟩ | exact ⟨k0, k1, k2⟩ | exact ⟨y1, y2, y3⟩ | exact ⟨z1, z2, z3⟩ | exact ⟨s1, s2, s3⟩ | go_keep)
        clear hK K
        refine wpAnyH_ready (rs := [10]) (by kernel_rfl) (by simp) ?_
        refine AllReadyH.cons rfl (fun K hK => ?_) AllReadyH.nil
        refine step_append _ (by rfl) _ _ _ (by rfl) 5 i0 _ 1 1 Try.underlying28 hi0 hz0 hz1 hz2 rfl (by decide) _ _ _ (by rfl) HOE.out _ NE cc.cp _ (by rfl) HCL.out HRC.out (bys_one _) (by simp only [maxLen]; omega) (by omega) ?_
        intro v8 w8 hap
        obtain ⟨A8, c8, hv8, _⟩ := hap.own.form
        rw [Nat.zero_add] at hv8
        subst hv8
        have HO8 := Shut.mk (hap.own.cast (Nat.zero_add NE) (List.nil_append _))
        have hb8 : Below wa.heap.size wa w8 := HB2.out.grown hap.grown (by have := HB2.out.size; exact this) (fun r hr => by cases hr; exact Nat.le_refl _)
        have hl8 : ∀ g', (Value.slice A8 NE c8).ownBlock = some g' → wa.heap.size ≤ g' := fun g' hg' => by
          rcases hap.lies with h | h
          · rw [h] at hg'; cases hg'; exact Nat.le_refl _
          · rw [h] at hg'; injection hg' with hg'; rw [← hg']; exact HB2.out.size
        have kg : w8.cell? ⟨GC, 0, none⟩ = some (.slice A' k c') := (hb8.cell hgcl).trans HX0.out
        have hfb := HF0.out.below hb8 hbl
        have k0 : w8.cell? ⟨B, 0, none⟩ = some (.string cc.k) := hfb.cell 0
        have k1 : w8.cell? ⟨B, 1, none⟩ = some (.slice cc.A NE cc.cp) := hfb.cell 1
        have k2 : w8.cell? ⟨B, 2, none⟩ = some (.int .i64 (cc.syn : Int)) := hfb.cell 2
        have y0 : (w8.alloc (.cells #[.string cc.k, .slice A8 NE c8, .int .i64 (cc.syn : Int)] 89)).cell? ⟨GC, 0, none⟩ = some (.slice A' k c') := (World.cell?_alloc_lt w8 _ _ (World.block_lt_of_cell? w8 _ kg)).trans kg
        have y1 : (w8.alloc (.cells #[.string cc.k, .slice A8 NE c8, .int .i64 (cc.syn : Int)] 89)).cell? ⟨B, 0, none⟩ = some (.string cc.k) := (World.cell?_alloc_lt w8 _ _ (World.block_lt_of_cell? w8 _ k0)).trans k0
        have y2 : (w8.alloc (.cells #[.string cc.k, .slice A8 NE c8, .int .i64 (cc.syn : Int)] 89)).cell? ⟨B, 1, none⟩ = some (.slice cc.A NE cc.cp) := (World.cell?_alloc_lt w8 _ _ (World.block_lt_of_cell? w8 _ k1)).trans k1
        have y3 : (w8.alloc (.cells #[.string cc.k, .slice A8 NE c8, .int .i64 (cc.syn : Int)] 89)).cell? ⟨B, 2, none⟩ = some (.int .i64 (cc.syn : Int)) := (World.cell?_alloc_lt w8 _ _ (World.block_lt_of_cell? w8 _ k2)).trans k2
        have HOR := Shut.mk ((HO1.out.below hb8 fun g hg => HO1.out.block_lt hg).alloc (.cells #[.string cc.k, .slice A8 NE c8, .int .i64 (cc.syn : Int)] 89))
        have HRN := Shut.mk (show Rd (w8.alloc (.cells #[.string cc.k, .slice A8 NE c8, .int .i64 (cc.syn : Int)] 89)) (some ⟨w8.heap.size, 0, none⟩) [.string cc.k, .slice A8 NE c8, .int .i64 (cc.syn : Int)] from rd_new w8 _ _)
        have HB8 := Shut.mk hb8
        have HB8a := Shut.mk (hb8.alloc hb8.size (.cells #[.string cc.k, .slice A8 NE c8, .int .i64 (cc.syn : Int)] 89))
        have HL8 := Shut.mk hl8
        clear hap hb8 hl8 hfb
        refine hK.out _ _ ?_ (fun hHeld => ?_)
        · try dsimp only
          (first | exact ⟨f0, f1, f2⟩ | exact ⟨g1, g2, g3⟩ | exact ⟨k0, k1, k2⟩ | exact ⟨y1, y2, y3⟩ | exact ⟨z1, z2, z3⟩ | exact ⟨s1, s2, s3⟩ | go_keep)
        clear hK K
        refine wpAnyH_take (i := 13) (oi := _) (v := ?_) rfl (by kernel_rfl) (by kernel_rfl) (by kernel_rfl) (fun _ _ _ h => h) (Or.inl ⟨by rfl, ?_⟩) (by assumption) ?_
        rotate_left
        · intro w hSw
          (try dsimp only at hSw)
          go_simp
          first | done | with_reducible rfl
        try simp only [Act.put, List.setIfInBounds_toArray, List.set_cons_zero, List.set_cons_succ]
        refine wpAnyH_ready (rs := [14]) (by kernel_rfl) (by simp) ?_
        refine AllReadyH.cons rfl (fun K hK => ?_) AllReadyH.nil
        go_simp
        refine hK.out _ _ ?_ (fun hHeld => ?_)
        · try dsimp only
          (first | exact ⟨f0, f1, f2⟩ | exact ⟨g1, g2, g3⟩ | exact ⟨k0, k1, k2⟩ | exact ⟨y1, y2, y3⟩ | exact ⟨z1, z2, z3⟩ | exact ⟨s1, s2, s3⟩ | go_keep)
        clear hK K
        refine wpAnyH_ready (rs := [15]) (by kernel_rfl) (by simp) ?_
        refine AllReadyH.cons rfl (fun K hK => ?_) AllReadyH.nil
        refine step_append _ (by rfl) _ _ _ (by rfl) 89 j0 _ 3 48 Try.underlying85 hj0 hy0 hy1 hy2 rfl (by decide) _ _ _ (by rfl) HOR.out _ 1 1 _ (by rfl) rfl HRN.out (by simp [Value.oneCell']) (by simp only [maxLen]; omega) (by omega) ?_
        intro v9 w9 hap
        obtain ⟨A9, c9, hv9, _⟩ := hap.own.form
        subst hv9
        have HO9 := Shut.mk hap.own
        have HG9 := Shut.mk hap.grown
        have HI9 := Shut.mk hap.lies
        have hbc := HC1.out.blk.below HB8a.out (World.block_lt_of_cell? _ _ HX0.out)
        have hgne : ∀ g, (Value.slice A' k c').ownBlock = some g → g ≠ GC := fun g hg => own_block_ne HOR.out hbc (by decide) g hg
        have hbc9 : Blk w9 GC 87 #[v', .int .i64 room, .int .i64 short, .int .i64 fuse] := (hap.grown.block GC hbc.lt (fun e => hgne GC e.symm rfl)).trans hbc
        have e9 : w9.cell? ⟨GC, 0, none⟩ = some (.slice A' k c') := by rw [← HV.out]; exact hbc9.cell 0
        have ef := hbc9.free 0
        have HBC9 := Shut.mk hbc9
        have hfb9 : Blk w9 B 89 #[.string cc.k, .slice cc.A NE cc.cp, .int .i64 (cc.syn : Int)] := (hap.grown.block B (World.block_lt_of_cell? _ _ y1) (fun e => HFN.out B e.symm rfl)).trans (HF0.out.below HB8a.out hbl)
        have z1 : w9.cell? ⟨B, 0, none⟩ = some (.string cc.k) := hfb9.cell 0
        have z2 : w9.cell? ⟨B, 1, none⟩ = some (.slice cc.A NE cc.cp) := hfb9.cell 1
        have z3 : w9.cell? ⟨B, 2, none⟩ = some (.int .i64 (cc.syn : Int)) := hfb9.cell 2
        have hfs := hfb9.far (p := ⟨GC, 0, none⟩) (by have h1 := HBW.out; have h2 := HCR.out.blk.lt; show B ≠ GC; omega) (.slice A9 (k + 1) c9)
        have s1 : (w9.setCell ⟨GC, 0, none⟩ (.slice A9 (k + 1) c9)).cell? ⟨B, 0, none⟩ = some (.string cc.k) := hfs.cell 0
        have s2 : (w9.setCell ⟨GC, 0, none⟩ (.slice A9 (k + 1) c9)).cell? ⟨B, 1, none⟩ = some (.slice cc.A NE cc.cp) := hfs.cell 1
        have s3 : (w9.setCell ⟨GC, 0, none⟩ (.slice A9 (k + 1) c9)).cell? ⟨B, 2, none⟩ = some (.int .i64 (cc.syn : Int)) := hfs.cell 2
        clear hap hbc hgne hbc9 hfb9 hfs
        refine hK.out _ _ ?_ (fun hHeld => ?_)
        · try dsimp only
          (first | exact ⟨f0, f1, f2⟩ | exact ⟨g1, g2, g3⟩ | exact ⟨k0, k1, k2⟩ | exact ⟨y1, y2, y3⟩ | exact ⟨z1, z2, z3⟩ | exact ⟨s1, s2, s3⟩ | go_keep)
        clear hK K
        refine wpAnyH_take (i := 16) (oi := _) (v := ?_) rfl (by kernel_rfl) (by kernel_rfl) (by kernel_rfl) (fun _ _ _ h => h) (Or.inl ⟨by rfl, ?_⟩) (by assumption) ?_
        rotate_left
        · intro w hSw
          (try dsimp only at hSw)
          go_simp
          first | done | with_reducible rfl
        try simp only [Act.put, List.setIfInBounds_toArray, List.set_cons_zero, List.set_cons_succ]
        refine wpAnyH_take (i := 17) (oi := _) (v := ?_) rfl (by kernel_rfl) (by kernel_rfl) (by kernel_rfl) (fun _ _ _ h => h) (Or.inl ⟨by rfl, ?_⟩) (by assumption) ?_
        rotate_left
        · intro w hSw
          (try dsimp only at hSw)
          go_simp
          first | done | with_reducible rfl
        try simp only [Act.put, List.setIfInBounds_toArray, List.set_cons_zero, List.set_cons_succ]
        refine wpAnyH_ready (rs := [18]) (by kernel_rfl) (by simp) ?_
        refine AllReadyH.cons rfl (fun K hK => ?_) AllReadyH.nil
        go_simp
        refine hK.out _ _ ?_ (fun hHeld => ?_)
        · try dsimp only
          (first | exact ⟨f0, f1, f2⟩ | exact ⟨g1, g2, g3⟩ | exact ⟨k0, k1, k2⟩ | exact ⟨y1, y2, y3⟩ | exact ⟨z1, z2, z3⟩ | exact ⟨s1, s2, s3⟩ | go_keep)
        clear hK K
        refine wpAnyH_done (by kernel_rfl) ?_ _
        have HCF := Shut.mk (copy_put (w := w) HC1.out HB8a.out HV.out HO9.out HG9.out HI9.out HBC9.out (x := ⟨cc.k, A8, c8, cc.b, cc.syn⟩) HRL.out.symm (HO8.out.alloc _) HL8.out hsw HFT.out (HBR.out.trans (HBA.out.mono HBR.out.size)) HNE.out)
        generalize w9.setCell ⟨GC, 0, none⟩ (.slice A9 (k + 1) c9) = w10 at HCF ⊢
        have HFN := Shut.mk (show (R' ++ [(⟨cc.k, A8, c8, cc.b, cc.syn⟩ : RF)]).map RF.fl = (R.take (k + 1)).map RF.fl from by
          rw [List.map_append, HFL.out, HTK.out, List.map_append]
          rfl)
        go_wp2_with fail
        go_roundw
        case rel => first
          | exact ⟨k + 1, _, _, by omega, by go_num, HCF.out.1, HFN.out, HCF.out.2.1, HCF.out.2.2⟩
          | exact ⟨k + 1, _, _, by omega, by go_num, HCF.out.1.below ⟨rfl, rfl, rfl, Nat.le_refl _, fun _ _ => rfl⟩, HFN.out, HCF.out.2.1, HCF.out.2.2.trans ⟨rfl, rfl, rfl, Nat.le_refl _, fun _ _ => rfl⟩⟩
        case measure => simp [intOf]; omega
      · skip
        go_simp
        refine hK.out _ _ ?_ (fun hHeld => ?_)
        · try dsimp only
          (first | exact ⟨f0, f1, f2⟩ | exact ⟨g1, g2, g3⟩ | exact ⟨k0, k1, k2⟩ | exact ⟨y1, y2, y3⟩ | exact ⟨z1, z2, z3⟩ | exact ⟨s1, s2, s3⟩ | go_keep)
        clear hK K
        refine wpAnyH_ready (rs := [4, 10]) (by kernel_rfl) (by simp) ?_
        refine AllReadyH.cons rfl (fun K hK => ?_) (AllReadyH.cons rfl (fun K hK => ?_) AllReadyH.nil)
        · skip
          go_simp
          refine hK.out _ _ ?_ (fun hHeld => ?_)
          · try dsimp only
            (first | exact ⟨f0, f1, f2⟩ | exact ⟨g1, g2, g3⟩ | exact ⟨k0, k1, k2⟩ | exact ⟨y1, y2, y3⟩ | exact ⟨z1, z2, z3⟩ | exact ⟨s1, s2, s3⟩ | go_keep)
          clear hK K
          refine wpAnyH_ready (rs := [10]) (by kernel_rfl) (by simp) ?_
          refine AllReadyH.cons rfl (fun K hK => ?_) AllReadyH.nil
          refine step_append _ (by rfl) _ _ _ (by rfl) 5 i0 _ 1 1 Try.underlying28 hi0 hz0 hz1 hz2 rfl (by decide) _ _ _ (by rfl) HOE.out _ NE cc.cp _ (by rfl) HCL.out HRC.out (bys_one _) (by simp only [maxLen]; omega) (by omega) ?_
          intro v8 w8 hap
          obtain ⟨A8, c8, hv8, _⟩ := hap.own.form
          rw [Nat.zero_add] at hv8
          subst hv8
          have HO8 := Shut.mk (hap.own.cast (Nat.zero_add NE) (List.nil_append _))
          have hb8 : Below wa.heap.size wa w8 := HB2.out.grown hap.grown (by have := HB2.out.size; exact this) (fun r hr => by cases hr; exact Nat.le_refl _)
          have hl8 : ∀ g', (Value.slice A8 NE c8).ownBlock = some g' → wa.heap.size ≤ g' := fun g' hg' => by
            rcases hap.lies with h | h
            · rw [h] at hg'; cases hg'; exact Nat.le_refl _
            · rw [h] at hg'; injection hg' with hg'; rw [← hg']; exact HB2.out.size
          have kg : w8.cell? ⟨GC, 0, none⟩ = some (.slice A' k c') := (hb8.cell hgcl).trans HX0.out
          have hfb := HF0.out.below hb8 hbl
          have k0 : w8.cell? ⟨B, 0, none⟩ = some (.string cc.k) := hfb.cell 0
          have k1 : w8.cell? ⟨B, 1, none⟩ = some (.slice cc.A NE cc.cp) := hfb.cell 1
          have k2 : w8.cell? ⟨B, 2, none⟩ = some (.int .i64 (cc.syn : Int)) := hfb.cell 2
          have y0 : (w8.alloc (.cells #[.string cc.k, .slice A8 NE c8, .int .i64 (cc.syn : Int)] 89)).cell? ⟨GC, 0, none⟩ = some (.slice A' k c') := (World.cell?_alloc_lt w8 _ _ (World.block_lt_of_cell? w8 _ kg)).trans kg
          have y1 : (w8.alloc (.cells #[.string cc.k, .slice A8 NE c8, .int .i64 (cc.syn : Int)] 89)).cell? ⟨B, 0, none⟩ = some (.string cc.k) := (World.cell?_alloc_lt w8 _ _ (World.block_lt_of_cell? w8 _ k0)).trans k0
          have y2 : (w8.alloc (.cells #[.string cc.k, .slice A8 NE c8, .int .i64 (cc.syn : Int)] 89)).cell? ⟨B, 1, none⟩ = some (.slice cc.A NE cc.cp) := (World.cell?_alloc_lt w8 _ _ (World.block_lt_of_cell? w8 _ k1)).trans k1
          have y3 : (w8.alloc (.cells #[.string cc.k, .slice A8 NE c8, .int .i64 (cc.syn : Int)] 89)).cell? ⟨B, 2, none⟩ = some (.int .i64 (cc.syn : Int)) := (World.cell?_alloc_lt w8 _ _ (World.block_lt_of_cell? w8 _ k2)).trans k2
          have HOR := Shut.mk ((HO1.out.below hb8 fun g hg => HO1.out.block_lt hg).alloc (.cells #[.string cc.k, .slice A8 NE c8, .int .i64 (cc.syn : Int)] 89))
          have HRN := Shut.mk (show Rd (w8.alloc (.cells #[.string cc.k, .slice A8 NE c8, .int .i64 (cc.syn : Int)] 89)) (some ⟨w8.heap.size, 0, none⟩) [.string cc.k, .slice A8 NE c8, .int .i64 (cc.syn : Int)] from rd_new w8 _ _)
          have HB8 := Shut.mk hb8
          have HB8a := Shut.mk (hb8.alloc hb8.size (.cells #[.string cc.k, .slice A8 NE c8, .int .i64 (cc.syn : Int)] 89))
          have HL8 := Shut.mk hl8
          clear hap hb8 hl8 hfb
          refine hK.out _ _ ?_ (fun hHeld => ?_)
          · try dsimp only
            (first | exact ⟨f0, f1, f2⟩ | exact ⟨g1, g2, g3⟩ | exact ⟨k0, k1, k2⟩ | exact ⟨y1, y2, y3⟩ | exact ⟨z1, z2, z3⟩ | exact ⟨s1, s2, s3⟩ | go_keep)
          clear hK K
          refine wpAnyH_take (i := 13) (oi := _) (v := ?_) rfl (by kernel_rfl) (by kernel_rfl) (by kernel_rfl) (fun _ _ _ h => h) (Or.inl ⟨by rfl, ?_⟩) (by assumption) ?_
          rotate_left
          · intro w hSw
            (try dsimp only at hSw)
            go_simp
            first | done | with_reducible rfl
          try simp only [Act.put, List.setIfInBounds_toArray, List.set_cons_zero, List.set_cons_succ]
          refine wpAnyH_ready (rs := [14]) (by kernel_rfl) (by simp) ?_
          refine AllReadyH.cons rfl (fun K hK => ?_) AllReadyH.nil
          go_simp
          refine hK.out _ _ ?_ (fun hHeld => ?_)
          · try dsimp only
            (first | exact ⟨f0, f1, f2⟩ | exact ⟨g1, g2, g3⟩ | exact ⟨k0, k1, k2⟩ | exact ⟨y1, y2, y3⟩ | exact ⟨z1, z2, z3⟩ | exact ⟨s1, s2, s3⟩ | go_keep)
          clear hK K
          refine wpAnyH_ready (rs := [15]) (by kernel_rfl) (by simp) ?_
          refine AllReadyH.cons rfl (fun K hK => ?_) AllReadyH.nil
          refine step_append _ (by rfl) _ _ _ (by rfl) 89 j0 _ 3 48 Try.underlying85 hj0 hy0 hy1 hy2 rfl (by decide) _ _ _ (by rfl) HOR.out _ 1 1 _ (by rfl) rfl HRN.out (by simp [Value.oneCell']) (by simp only [maxLen]; omega) (by omega) ?_
          intro v9 w9 hap
          obtain ⟨A9, c9, hv9, _⟩ := hap.own.form
          subst hv9
          have HO9 := Shut.mk hap.own
          have HG9 := Shut.mk hap.grown
          have HI9 := Shut.mk hap.lies
          have hbc := HC1.out.blk.below HB8a.out (World.block_lt_of_cell? _ _ HX0.out)
          have hgne : ∀ g, (Value.slice A' k c').ownBlock = some g → g ≠ GC := fun g hg => own_block_ne HOR.out hbc (by decide) g hg
          have hbc9 : Blk w9 GC 87 #[v', .int .i64 room, .int .i64 short, .int .i64 fuse] := (hap.grown.block GC hbc.lt (fun e => hgne GC e.symm rfl)).trans hbc
          have e9 : w9.cell? ⟨GC, 0, none⟩ = some (.slice A' k c') := by rw [← HV.out]; exact hbc9.cell 0
          have ef := hbc9.free 0
          have HBC9 := Shut.mk hbc9
          have hfb9 : Blk w9 B 89 #[.string cc.k, .slice cc.A NE cc.cp, .int .i64 (cc.syn : Int)] := (hap.grown.block B (World.block_lt_of_cell? _ _ y1) (fun e => HFN.out B e.symm rfl)).trans (HF0.out.below HB8a.out hbl)
          have z1 : w9.cell? ⟨B, 0, none⟩ = some (.string cc.k) := hfb9.cell 0
          have z2 : w9.cell? ⟨B, 1, none⟩ = some (.slice cc.A NE cc.cp) := hfb9.cell 1
          have z3 : w9.cell? ⟨B, 2, none⟩ = some (.int .i64 (cc.syn : Int)) := hfb9.cell 2
          have hfs := hfb9.far (p := ⟨GC, 0, none⟩) (by have h1 := HBW.out; have h2 := HCR.out.blk.lt; show B ≠ GC; omega) (.slice A9 (k + 1) c9)
          have s1 : (w9.setCell ⟨GC, 0, none⟩ (.slice A9 (k + 1) c9)).cell? ⟨B, 0, none⟩ = some (.string cc.k) := hfs.cell 0
          have s2 : (w9.setCell ⟨GC, 0, none⟩ (.slice A9 (k + 1) c9)).cell? ⟨B, 1, none⟩ = some (.slice cc.A NE cc.cp) := hfs.cell 1
          have s3 : (w9.setCell ⟨GC, 0, none⟩ (.slice A9 (k + 1) c9)).cell? ⟨B, 2, none⟩ = some (.int .i64 (cc.syn : Int)) := hfs.cell 2
          clear hap hbc hgne hbc9 hfb9 hfs
          refine hK.out _ _ ?_ (fun hHeld => ?_)
          · try dsimp only
            (first | exact ⟨f0, f1, f2⟩ | exact ⟨g1, g2, g3⟩ | exact ⟨k0, k1, k2⟩ | exact ⟨y1, y2, y3⟩ | exact ⟨z1, z2, z3⟩ | exact ⟨s1, s2, s3⟩ | go_keep)
          clear hK K
          refine wpAnyH_take (i := 16) (oi := _) (v := ?_) rfl (by kernel_rfl) (by kernel_rfl) (by kernel_rfl) (fun _ _ _ h => h) (Or.inl ⟨by rfl, ?_⟩) (by assumption) ?_
          rotate_left
          · intro w hSw
            (try dsimp only at hSw)
            go_simp
            first | done | with_reducible rfl
          try simp only [Act.put, List.setIfInBounds_toArray, List.set_cons_zero, List.set_cons_succ]
          refine wpAnyH_take (i := 17) (oi := _) (v := ?_) rfl (by kernel_rfl) (by kernel_rfl) (by kernel_rfl) (fun _ _ _ h => h) (Or.inl ⟨by rfl, ?_⟩) (by assumption) ?_
          rotate_left
          · intro w hSw
            (try dsimp only at hSw)
            go_simp
            first | done | with_reducible rfl
          try simp only [Act.put, List.setIfInBounds_toArray, List.set_cons_zero, List.set_cons_succ]
          refine wpAnyH_ready (rs := [18]) (by kernel_rfl) (by simp) ?_
          refine AllReadyH.cons rfl (fun K hK => ?_) AllReadyH.nil
          go_simp
          refine hK.out _ _ ?_ (fun hHeld => ?_)
          · try dsimp only
            (first | exact ⟨f0, f1, f2⟩ | exact ⟨g1, g2, g3⟩ | exact ⟨k0, k1, k2⟩ | exact ⟨y1, y2, y3⟩ | exact ⟨z1, z2, z3⟩ | exact ⟨s1, s2, s3⟩ | go_keep)
          clear hK K
          refine wpAnyH_done (by kernel_rfl) ?_ _
          have HCF := Shut.mk (copy_put (w := w) HC1.out HB8a.out HV.out HO9.out HG9.out HI9.out HBC9.out (x := ⟨cc.k, A8, c8, cc.b, cc.syn⟩) HRL.out.symm (HO8.out.alloc _) HL8.out hsw HFT.out (HBR.out.trans (HBA.out.mono HBR.out.size)) HNE.out)
          generalize w9.setCell ⟨GC, 0, none⟩ (.slice A9 (k + 1) c9) = w10 at HCF ⊢
          have HFN := Shut.mk (show (R' ++ [(⟨cc.k, A8, c8, cc.b, cc.syn⟩ : RF)]).map RF.fl = (R.take (k + 1)).map RF.fl from by
            rw [List.map_append, HFL.out, HTK.out, List.map_append]
            rfl)
          go_wp2_with fail
          go_roundw
          case rel => first
            | exact ⟨k + 1, _, _, by omega, by go_num, HCF.out.1, HFN.out, HCF.out.2.1, HCF.out.2.2⟩
            | exact ⟨k + 1, _, _, by omega, by go_num, HCF.out.1.below ⟨rfl, rfl, rfl, Nat.le_refl _, fun _ _ => rfl⟩, HFN.out, HCF.out.2.1, HCF.out.2.2.trans ⟨rfl, rfl, rfl, Nat.le_refl _, fun _ _ => rfl⟩⟩
          case measure => simp [intOf]; omega
        · skip
          refine step_append _ (by rfl) _ _ _ (by rfl) 5 i0 _ 1 1 Try.underlying28 hi0 hz0 hz1 hz2 rfl (by decide) _ _ _ (by rfl) HOE.out _ NE cc.cp _ (by rfl) HCL.out HRC.out (bys_one _) (by simp only [maxLen]; omega) (by omega) ?_
          intro v8 w8 hap
          obtain ⟨A8, c8, hv8, _⟩ := hap.own.form
          rw [Nat.zero_add] at hv8
          subst hv8
          have HO8 := Shut.mk (hap.own.cast (Nat.zero_add NE) (List.nil_append _))
          have hb8 : Below wa.heap.size wa w8 := HB2.out.grown hap.grown (by have := HB2.out.size; exact this) (fun r hr => by cases hr; exact Nat.le_refl _)
          have hl8 : ∀ g', (Value.slice A8 NE c8).ownBlock = some g' → wa.heap.size ≤ g' := fun g' hg' => by
            rcases hap.lies with h | h
            · rw [h] at hg'; cases hg'; exact Nat.le_refl _
            · rw [h] at hg'; injection hg' with hg'; rw [← hg']; exact HB2.out.size
          have kg : w8.cell? ⟨GC, 0, none⟩ = some (.slice A' k c') := (hb8.cell hgcl).trans HX0.out
          have hfb := HF0.out.below hb8 hbl
          have k0 : w8.cell? ⟨B, 0, none⟩ = some (.string cc.k) := hfb.cell 0
          have k1 : w8.cell? ⟨B, 1, none⟩ = some (.slice cc.A NE cc.cp) := hfb.cell 1
          have k2 : w8.cell? ⟨B, 2, none⟩ = some (.int .i64 (cc.syn : Int)) := hfb.cell 2
          have y0 : (w8.alloc (.cells #[.string cc.k, .slice A8 NE c8, .int .i64 (cc.syn : Int)] 89)).cell? ⟨GC, 0, none⟩ = some (.slice A' k c') := (World.cell?_alloc_lt w8 _ _ (World.block_lt_of_cell? w8 _ kg)).trans kg
          have y1 : (w8.alloc (.cells #[.string cc.k, .slice A8 NE c8, .int .i64 (cc.syn : Int)] 89)).cell? ⟨B, 0, none⟩ = some (.string cc.k) := (World.cell?_alloc_lt w8 _ _ (World.block_lt_of_cell? w8 _ k0)).trans k0
          have y2 : (w8.alloc (.cells #[.string cc.k, .slice A8 NE c8, .int .i64 (cc.syn : Int)] 89)).cell? ⟨B, 1, none⟩ = some (.slice cc.A NE cc.cp) := (World.cell?_alloc_lt w8 _ _ (World.block_lt_of_cell? w8 _ k1)).trans k1
          have y3 : (w8.alloc (.cells #[.string cc.k, .slice A8 NE c8, .int .i64 (cc.syn : Int)] 89)).cell? ⟨B, 2, none⟩ = some (.int .i64 (cc.syn : Int)) := (World.cell?_alloc_lt w8 _ _ (World.block_lt_of_cell? w8 _ k2)).trans k2
          have HOR := Shut.mk ((HO1.out.below hb8 fun g hg => HO1.out.block_lt hg).alloc (.cells #[.string cc.k, .slice A8 NE c8, .int .i64 (cc.syn : Int)] 89))
          have HRN := Shut.mk (show Rd (w8.alloc (.cells #[.string cc.k, .slice A8 NE c8, .int .i64 (cc.syn : Int)] 89)) (some ⟨w8.heap.size, 0, none⟩) [.string cc.k, .slice A8 NE c8, .int .i64 (cc.syn : Int)] from rd_new w8 _ _)
          have HB8 := Shut.mk hb8
          have HB8a := Shut.mk (hb8.alloc hb8.size (.cells #[.string cc.k, .slice A8 NE c8, .int .i64 (cc.syn : Int)] 89))
          have HL8 := Shut.mk hl8
          clear hap hb8 hl8 hfb
          refine hK.out _ _ ?_ (fun hHeld => ?_)
          · try dsimp only
            (first | exact ⟨f0, f1, f2⟩ | exact ⟨g1, g2, g3⟩ | exact ⟨k0, k1, k2⟩ | exact ⟨y1, y2, y3⟩ | exact ⟨z1, z2, z3⟩ | exact ⟨s1, s2, s3⟩ | go_keep)
          clear hK K
          refine wpAnyH_take (i := 13) (oi := _) (v := ?_) rfl (by kernel_rfl) (by kernel_rfl) (by kernel_rfl) (fun _ _ _ h => h) (Or.inl ⟨by rfl, ?_⟩) (by assumption) ?_
          rotate_left
          · intro w hSw
            (try dsimp only at hSw)
            go_simp
            first | done | with_reducible rfl
          try simp only [Act.put, List.setIfInBounds_toArray, List.set_cons_zero, List.set_cons_succ]
          refine wpAnyH_ready (rs := [4, 14]) (by kernel_rfl) (by simp) ?_
          refine AllReadyH.cons rfl (fun K hK => ?_) (AllReadyH.cons rfl (fun K hK => ?_) AllReadyH.nil)
          · skip
            go_simp
            refine hK.out _ _ ?_ (fun hHeld => ?_)
            · try dsimp only
              (first | exact ⟨f0, f1, f2⟩ | exact ⟨g1, g2, g3⟩ | exact ⟨k0, k1, k2⟩ | exact ⟨y1, y2, y3⟩ | exact ⟨z1, z2, z3⟩ | exact ⟨s1, s2, s3⟩ | go_keep)
            clear hK K
            refine wpAnyH_ready (rs := [14]) (by kernel_rfl) (by simp) ?_
            refine AllReadyH.cons rfl (fun K hK => ?_) AllReadyH.nil
            go_simp
            refine hK.out _ _ ?_ (fun hHeld => ?_)
            · try dsimp only
              (first | exact ⟨f0, f1, f2⟩ | exact ⟨g1, g2, g3⟩ | exact ⟨k0, k1, k2⟩ | exact ⟨y1, y2, y3⟩ | exact ⟨z1, z2, z3⟩ | exact ⟨s1, s2, s3⟩ | go_keep)
            clear hK K
            refine wpAnyH_ready (rs := [15]) (by kernel_rfl) (by simp) ?_
            refine AllReadyH.cons rfl (fun K hK => ?_) AllReadyH.nil
            refine step_append _ (by rfl) _ _ _ (by rfl) 89 j0 _ 3 48 Try.underlying85 hj0 hy0 hy1 hy2 rfl (by decide) _ _ _ (by rfl) HOR.out _ 1 1 _ (by rfl) rfl HRN.out (by simp [Value.oneCell']) (by simp only [maxLen]; omega) (by omega) ?_
            intro v9 w9 hap
            obtain ⟨A9, c9, hv9, _⟩ := hap.own.form
            subst hv9
            have HO9 := Shut.mk hap.own
            have HG9 := Shut.mk hap.grown
            have HI9 := Shut.mk hap.lies
            have hbc := HC1.out.blk.below HB8a.out (World.block_lt_of_cell? _ _ HX0.out)
            have hgne : ∀ g, (Value.slice A' k c').ownBlock = some g → g ≠ GC := fun g hg => own_block_ne HOR.out hbc (by decide) g hg
            have hbc9 : Blk w9 GC 87 #[v', .int .i64 room, .int .i64 short, .int .i64 fuse] := (hap.grown.block GC hbc.lt (fun e => hgne GC e.symm rfl)).trans hbc
            have e9 : w9.cell? ⟨GC, 0, none⟩ = some (.slice A' k c') := by rw [← HV.out]; exact hbc9.cell 0
            have ef := hbc9.free 0
            have HBC9 := Shut.mk hbc9
            have hfb9 : Blk w9 B 89 #[.string cc.k, .slice cc.A NE cc.cp, .int .i64 (cc.syn : Int)] := (hap.grown.block B (World.block_lt_of_cell? _ _ y1) (fun e => HFN.out B e.symm rfl)).trans (HF0.out.below HB8a.out hbl)
            have z1 : w9.cell? ⟨B, 0, none⟩ = some (.string cc.k) := hfb9.cell 0
            have z2 : w9.cell? ⟨B, 1, none⟩ = some (.slice cc.A NE cc.cp) := hfb9.cell 1
            have z3 : w9.cell? ⟨B, 2, none⟩ = some (.int .i64 (cc.syn : Int)) := hfb9.cell 2
            have hfs := hfb9.far (p := ⟨GC, 0, none⟩) (by have h1 := HBW.out; have h2 := HCR.out.blk.lt; show B ≠ GC; omega) (.slice A9 (k + 1) c9)
            have s1 : (w9.setCell ⟨GC, 0, none⟩ (.slice A9 (k + 1) c9)).cell? ⟨B, 0, none⟩ = some (.string cc.k) := hfs.cell 0
            have s2 : (w9.setCell ⟨GC, 0, none⟩ (.slice A9 (k + 1) c9)).cell? ⟨B, 1, none⟩ = some (.slice cc.A NE cc.cp) := hfs.cell 1
            have s3 : (w9.setCell ⟨GC, 0, none⟩ (.slice A9 (k + 1) c9)).cell? ⟨B, 2, none⟩ = some (.int .i64 (cc.syn : Int)) := hfs.cell 2
            clear hap hbc hgne hbc9 hfb9 hfs
            refine hK.out _ _ ?_ (fun hHeld => ?_)
            · try dsimp only
              (first | exact ⟨f0, f1, f2⟩ | exact ⟨g1, g2, g3⟩ | exact ⟨k0, k1, k2⟩ | exact ⟨y1, y2, y3⟩ | exact ⟨z1, z2, z3⟩ | exact ⟨s1, s2, s3⟩ | go_keep)
            clear hK K
            refine wpAnyH_take (i := 16) (oi := _) (v := ?_) rfl (by kernel_rfl) (by kernel_rfl) (by kernel_rfl) (fun _ _ _ h => h) (Or.inl ⟨by rfl, ?_⟩) (by assumption) ?_
            rotate_left
            · intro w hSw
              (try dsimp only at hSw)
              go_simp
              first | done | with_reducible rfl
            try simp only [Act.put, List.setIfInBounds_toArray, List.set_cons_zero, List.set_cons_succ]
            refine wpAnyH_take (i := 17) (oi := _) (v := ?_) rfl (by kernel_rfl) (by kernel_rfl) (by kernel_rfl) (fun _ _ _ h => h) (Or.inl ⟨by rfl, ?_⟩) (by assumption) ?_
            rotate_left
            · intro w hSw
              (try dsimp only at hSw)
              go_simp
              first | done | with_reducible rfl
            try simp only [Act.put, List.setIfInBounds_toArray, List.set_cons_zero, List.set_cons_succ]
            refine wpAnyH_ready (rs := [18]) (by kernel_rfl) (by simp) ?_
            refine AllReadyH.cons rfl (fun K hK => ?_) AllReadyH.nil
            go_simp
            refine hK.out _ _ ?_ (fun hHeld => ?_)
            · try dsimp only
              (first | exact ⟨f0, f1, f2⟩ | exact ⟨g1, g2, g3⟩ | exact ⟨k0, k1, k2⟩ | exact ⟨y1, y2, y3⟩ | exact ⟨z1, z2, z3⟩ | exact ⟨s1, s2, s3⟩ | go_keep)
            clear hK K
            refine wpAnyH_done (by kernel_rfl) ?_ _
            have HCF := Shut.mk (copy_put (w := w) HC1.out HB8a.out HV.out HO9.out HG9.out HI9.out HBC9.out (x := ⟨cc.k, A8, c8, cc.b, cc.syn⟩) HRL.out.symm (HO8.out.alloc _) HL8.out hsw HFT.out (HBR.out.trans (HBA.out.mono HBR.out.size)) HNE.out)
            generalize w9.setCell ⟨GC, 0, none⟩ (.slice A9 (k + 1) c9) = w10 at HCF ⊢
            have HFN := Shut.mk (show (R' ++ [(⟨cc.k, A8, c8, cc.b, cc.syn⟩ : RF)]).map RF.fl = (R.take (k + 1)).map RF.fl from by
              rw [List.map_append, HFL.out, HTK.out, List.map_append]
              rfl)
            go_wp2_with fail
            go_roundw
            case rel => first
              | exact ⟨k + 1, _, _, by omega, by go_num, HCF.out.1, HFN.out, HCF.out.2.1, HCF.out.2.2⟩
              | exact ⟨k + 1, _, _, by omega, by go_num, HCF.out.1.below ⟨rfl, rfl, rfl, Nat.le_refl _, fun _ _ => rfl⟩, HFN.out, HCF.out.2.1, HCF.out.2.2.trans ⟨rfl, rfl, rfl, Nat.le_refl _, fun _ _ => rfl⟩⟩
            case measure => simp [intOf]; omega
          · skip
            go_simp
            refine hK.out _ _ ?_ (fun hHeld => ?_)
            · try dsimp only
              (first | exact ⟨f0, f1, f2⟩ | exact ⟨g1, g2, g3⟩ | exact ⟨k0, k1, k2⟩ | exact ⟨y1, y2, y3⟩ | exact ⟨z1, z2, z3⟩ | exact ⟨s1, s2, s3⟩ | go_keep)
            clear hK K
            refine wpAnyH_ready (rs := [4]) (by kernel_rfl) (by simp) ?_
            refine AllReadyH.cons rfl (fun K hK => ?_) AllReadyH.nil
            go_simp
            refine hK.out _ _ ?_ (fun hHeld => ?_)
            · try dsimp only
              (first | exact ⟨f0, f1, f2⟩ | exact ⟨g1, g2, g3⟩ | exact ⟨k0, k1, k2⟩ | exact ⟨y1, y2, y3⟩ | exact ⟨z1, z2, z3⟩ | exact ⟨s1, s2, s3⟩ | go_keep)
            clear hK K
            refine wpAnyH_ready (rs := [15]) (by kernel_rfl) (by simp) ?_
            refine AllReadyH.cons rfl (fun K hK => ?_) AllReadyH.nil
            refine step_append _ (by rfl) _ _ _ (by rfl) 89 j0 _ 3 48 Try.underlying85 hj0 hy0 hy1 hy2 rfl (by decide) _ _ _ (by rfl) HOR.out _ 1 1 _ (by rfl) rfl HRN.out (by simp [Value.oneCell']) (by simp only [maxLen]; omega) (by omega) ?_
            intro v9 w9 hap
            obtain ⟨A9, c9, hv9, _⟩ := hap.own.form
            subst hv9
            have HO9 := Shut.mk hap.own
            have HG9 := Shut.mk hap.grown
            have HI9 := Shut.mk hap.lies
            have hbc := HC1.out.blk.below HB8a.out (World.block_lt_of_cell? _ _ HX0.out)
            have hgne : ∀ g, (Value.slice A' k c').ownBlock = some g → g ≠ GC := fun g hg => own_block_ne HOR.out hbc (by decide) g hg
            have hbc9 : Blk w9 GC 87 #[v', .int .i64 room, .int .i64 short, .int .i64 fuse] := (hap.grown.block GC hbc.lt (fun e => hgne GC e.symm rfl)).trans hbc
            have e9 : w9.cell? ⟨GC, 0, none⟩ = some (.slice A' k c') := by rw [← HV.out]; exact hbc9.cell 0
            have ef := hbc9.free 0
            have HBC9 := Shut.mk hbc9
            have hfb9 : Blk w9 B 89 #[.string cc.k, .slice cc.A NE cc.cp, .int .i64 (cc.syn : Int)] := (hap.grown.block B (World.block_lt_of_cell? _ _ y1) (fun e => HFN.out B e.symm rfl)).trans (HF0.out.below HB8a.out hbl)
            have z1 : w9.cell? ⟨B, 0, none⟩ = some (.string cc.k) := hfb9.cell 0
            have z2 : w9.cell? ⟨B, 1, none⟩ = some (.slice cc.A NE cc.cp) := hfb9.cell 1
            have z3 : w9.cell? ⟨B, 2, none⟩ = some (.int .i64 (cc.syn : Int)) := hfb9.cell 2
            have hfs := hfb9.far (p := ⟨GC, 0, none⟩) (by have h1 := HBW.out; have h2 := HCR.out.blk.lt; show B ≠ GC; omega) (.slice A9 (k + 1) c9)
            have s1 : (w9.setCell ⟨GC, 0, none⟩ (.slice A9 (k + 1) c9)).cell? ⟨B, 0, none⟩ = some (.string cc.k) := hfs.cell 0
            have s2 : (w9.setCell ⟨GC, 0, none⟩ (.slice A9 (k + 1) c9)).cell? ⟨B, 1, none⟩ = some (.slice cc.A NE cc.cp) := hfs.cell 1
            have s3 : (w9.setCell ⟨GC, 0, none⟩ (.slice A9 (k + 1) c9)).cell? ⟨B, 2, none⟩ = some (.int .i64 (cc.syn : Int)) := hfs.cell 2
            clear hap hbc hgne hbc9 hfb9 hfs
            refine hK.out _ _ ?_ (fun hHeld => ?_)
            · try dsimp only
              (first | exact ⟨f0, f1, f2⟩ | exact ⟨g1, g2, g3⟩ | exact ⟨k0, k1, k2⟩ | exact ⟨y1, y2, y3⟩ | exact ⟨z1, z2, z3⟩ | exact ⟨s1, s2, s3⟩ | go_keep)
            clear hK K
            refine wpAnyH_take (i := 16) (oi := _) (v := ?_) rfl (by kernel_rfl) (by kernel_rfl) (by kernel_rfl) (fun _ _ _ h => h) (Or.inl ⟨by rfl, ?_⟩) (by assumption) ?_
            rotate_left
            · intro w hSw
              (try dsimp only at hSw)
              go_simp
              first | done | with_reducible rfl
            try simp only [Act.put, List.setIfInBounds_toArray, List.set_cons_zero, List.set_cons_succ]
            refine wpAnyH_take (i := 17) (oi := _) (v := ?_) rfl (by kernel_rfl) (by kernel_rfl) (by kernel_rfl) (fun _ _ _ h => h) (Or.inl ⟨by rfl, ?_⟩) (by assumption) ?_
            rotate_left
            · intro w hSw
              (try dsimp only at hSw)
              go_simp
              first | done | with_reducible rfl
            try simp only [Act.put, List.setIfInBounds_toArray, List.set_cons_zero, List.set_cons_succ]
            refine wpAnyH_ready (rs := [18]) (by kernel_rfl) (by simp) ?_
            refine AllReadyH.cons rfl (fun K hK => ?_) AllReadyH.nil
            go_simp
            refine hK.out _ _ ?_ (fun hHeld => ?_)
            · try dsimp only
              (first | exact ⟨f0, f1, f2⟩ | exact ⟨g1, g2, g3⟩ | exact ⟨k0, k1, k2⟩ | exact ⟨y1, y2, y3⟩ | exact ⟨z1, z2, z3⟩ | exact ⟨s1, s2, s3⟩ | go_keep)
            clear hK K
            refine wpAnyH_done (by kernel_rfl) ?_ _
            have HCF := Shut.mk (copy_put (w := w) HC1.out HB8a.out HV.out HO9.out HG9.out HI9.out HBC9.out (x := ⟨cc.k, A8, c8, cc.b, cc.syn⟩) HRL.out.symm (HO8.out.alloc _) HL8.out hsw HFT.out (HBR.out.trans (HBA.out.mono HBR.out.size)) HNE.out)
            generalize w9.setCell ⟨GC, 0, none⟩ (.slice A9 (k + 1) c9) = w10 at HCF ⊢
            have HFN := Shut.mk (show (R' ++ [(⟨cc.k, A8, c8, cc.b, cc.syn⟩ : RF)]).map RF.fl = (R.take (k + 1)).map RF.fl from by
              rw [List.map_append, HFL.out, HTK.out, List.map_append]
              rfl)
            go_wp2_with fail
            go_roundw
            case rel => first
              | exact ⟨k + 1, _, _, by omega, by go_num, HCF.out.1, HFN.out, HCF.out.2.1, HCF.out.2.2⟩
              | exact ⟨k + 1, _, _, by omega, by go_num, HCF.out.1.below ⟨rfl, rfl, rfl, Nat.le_refl _, fun _ _ => rfl⟩, HFN.out, HCF.out.2.1, HCF.out.2.2.trans ⟨rfl, rfl, rfl, Nat.le_refl _, fun _ _ => rfl⟩⟩
            case measure => simp [intOf]; omega
    · obtain rfl : k = N := by omega
      have hkI : ¬ (k : Int) < (k : Int) := by omega
      have HFE := Shut.mk (show R'.map RF.fl = R.map RF.fl from by rw [HFL.out, HN.out, List.take_length])
      go_wp2_with fail
      go_ret
      first
        | exact ⟨GC, v', R', rfl, HCR.out, HFE.out, HBR.out, HFT.out⟩
        | exact ⟨GC, rfl, v', R', HCR.out, HFE.out, HBR.out, HFT.out⟩
end
end Go.Proofs.Ytjmaimpfplojpaa
