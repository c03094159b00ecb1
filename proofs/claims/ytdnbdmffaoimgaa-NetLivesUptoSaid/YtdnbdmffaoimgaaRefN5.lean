/- Walks: the document's net: Drop. -/
import Derived.Test.YtdnbdmffaoimgaaRefN3
namespace Go.Proofs.Ytdnbdmffaoimgaa
open Go.RowKit Go.Maps
set_option linter.unusedSimpArgs false
set_option linter.unusedVariables false
set_option maxRecDepth 100000

theorem rcs_take (R : List RC) (k : Nat) : rcs (R.take k) = (rcs R).take (k * 3) := by
  induction R generalizing k with
  | nil => simp [rcs]
  | cons a r ih =>
    have e : ∀ (x : RC) (l : List RC), rcs (x :: l) = .int .i64 x.id :: .int .i64 x.addr :: x.v :: rcs l := fun x l => rfl
    cases k with
    | zero => simp [rcs]
    | succ k =>
      rw [List.take_succ_cons, e, e, show (k + 1) * 3 = k * 3 + 1 + 1 + 1 by omega, List.take_succ_cons, List.take_succ_cons, List.take_succ_cons, ih]
theorem rcs_drop (R : List RC) (k : Nat) : rcs (R.drop k) = (rcs R).drop (k * 3) := by
  induction R generalizing k with
  | nil => simp [rcs]
  | cons a r ih =>
    have e : ∀ (x : RC) (l : List RC), rcs (x :: l) = .int .i64 x.id :: .int .i64 x.addr :: x.v :: rcs l := fun x l => rfl
    cases k with
    | zero => simp
    | succ k =>
      rw [List.drop_succ_cons, e, show (k + 1) * 3 = k * 3 + 1 + 1 + 1 by omega, List.drop_succ_cons, List.drop_succ_cons, List.drop_succ_cons, ih]
theorem rcs_one (R : List RC) : ∀ u ∈ rcs R, u.oneCell' = true := by
  intro u hu
  simp only [rcs, List.mem_flatMap] at hu
  obtain ⟨c, _, hu⟩ := hu
  simp [RC.cells, RC.v] at hu
  rcases hu with rfl | rfl | rfl <;> rfl
theorem rd_part {w : World} {g : Nat} {R : List RC} (h : ∀ j u, (rcs R)[j]? = some u → w.cell? ⟨g, j, none⟩ = some u) (a n : Nat) : Rd w (some ⟨g, a * 3, none⟩) (rcs ((R.drop a).take n)) := by
  intro _
  refine ⟨_, rfl, fun j u hu => ?_⟩
  have e : (⟨g, a * 3, none⟩ : Addr).add j = ⟨g, a * 3 + j, none⟩ := by
    unfold Addr.add
    by_cases hj : j = 0
    · simp [hj]
    · simp [hj]
  rw [e]
  refine h _ u ?_
  rw [rcs_take, rcs_drop, List.getElem?_take] at hu
  split at hu
  · rwa [List.getElem?_drop] at hu
  · cases hu
section
variable {w w' : World} {gx last : Nat} {v : Value} {R : List RC}
set_option maxHeartbeats 4000000 in
theorem rdrop_calls (hR : RefAt w gx v last R) (id : Int) (hl : R.length < 1000000) {c : RC} (hc : R[idx R id]? = some c) :
    Calls Try.prog 19 #[.pointer (some ⟨gx, 0, none⟩), .int .i64 id] w fun e w' => e = .returned (.int .i64 0) ∧
      ∃ v', RefAt w' gx v' last (R.take (idx R id) ++ R.drop (idx R id + 1)) ∧ Kb w w' (gx :: v.ownBlock.toList) ∧ ∀ g, v'.ownBlock = some g → w.heap.size ≤ g := by
  obtain ⟨i0, hi0, hz0, hz1, hz2⟩ := info_parts info_rc2
  have HP := Shut.mk (place_calls hR id hl)
  have hi : idx R id < R.length := (List.getElem?_eq_some_iff.1 hc).1
  obtain ⟨g, cap, hv, hnc, hcm, hcell⟩ := hR.head (by omega)
  have HB := Shut.mk hR.blk
  rw [if_pos hi] at HP
  unfold maxLen at hcm
  have HR := Shut.mk hR
  have HX := Shut.mk hc
  have HV := Shut.mk hv
  have HCE := Shut.mk hcell
  obtain ⟨k, hk⟩ : ∃ k, k = idx R id := ⟨_, rfl⟩
  rw [← hk] at HP hi HX ⊢
  obtain ⟨N, hN⟩ : ∃ N, N = R.length := ⟨_, rfl⟩
  rw [← hN] at hi hl hnc
  have HN := Shut.mk hN
  have HG0 := Shut.mk (show w.cell? ⟨gx, 0, none⟩ = some (.slice (some ⟨g, 0, none⟩) N cap) by rw [HN.out, ← HV.out]; exact HB.out.cell 0)
  have hw1 : IntKind.i64.wrap ((k : Int) + 1) = (k : Int) + 1 := by rw [IntKind.wrap_i64]; omega
  clear hcell hc hR hk hv hN
  go_enter Try.func19, Try.ntmps19
  go_wp2_with fail
  refine HP.out.mono ?_
  rintro e w1 ⟨rfl, hb1⟩
  have c0 : w1.cell? ⟨gx, 0, none⟩ = some (.slice (some ⟨g, 0, none⟩) N cap) := (hb1.cell HB.out.lt).trans HG0.out
  have d0 : (w1.alloc (.cells #[] 66)).cell? ⟨gx, 0, none⟩ = some (.slice (some ⟨g, 0, none⟩) N cap) := (World.cell?_alloc_lt w1 _ _ (World.block_lt_of_cell? w1 _ c0)).trans c0
  have hkI : (k : Int) < (N : Int) := by omega
  have hk0 : ¬ (k : Int) < 0 := by omega
  have hkc : k ≤ cap := by omega
  have hkc1 : k + 1 ≤ N := by omega
  have hkc2 : k + 1 ≤ cap := by omega
  have hk1a : (0 : Int) ≤ (k : Int) + 1 := by omega
  have hk1b : (k : Int) + 1 ≤ (N : Int) := by omega
  have hcm2 : cap ≤ 9223372036854775807 := by omega
  have hs1 : w.heap.size ≤ w1.heap.size := hb1.size
  have hba : Below w.heap.size w (w1.alloc (.cells #[] 66)).drew := by have := hb1.alloc hb1.size (.cells #[] 66); exact ⟨this.os, this.tape, this.output, this.size, this.block⟩
  have HOE := Shut.mk (show Own (w1.alloc (.cells #[] 66)).drew 66 3 (.slice (some ⟨w1.heap.size, 0, none⟩) 0 0) 0 [] from own_empty w1 _ _)
  have HCB := Shut.mk (fun (w' : World) (hb : Below w.heap.size w w') => (fun j u hu => (hb.cell (World.block_lt_of_cell? w _ (HCE.out j u hu))).trans (HCE.out j u hu) : ∀ j u, (rcs R)[j]? = some u → w'.cell? ⟨g, j, none⟩ = some u))
  have HRT := Shut.mk (show Rd (w1.alloc (.cells #[] 66)).drew (some ⟨g, 0, none⟩) (rcs (R.take k)) from by have := rd_part (HCB.out _ hba) 0 k; simpa using this)
  have HTL := Shut.mk (show (rcs (R.take k)).length = k * 3 by rw [rcs_length, List.length_take, ← HN.out]; omega)
  have HDL := Shut.mk (show (rcs (R.drop (k + 1))).length = (N - (k + 1)) * 3 by rw [rcs_length, List.length_drop, ← HN.out])
  have HRD := Shut.mk (fun (w' : World) (hb : Below w.heap.size w w') => (by
    have h0 := rd_part (HCB.out w' hb) (k + 1) (R.length)
    rw [List.take_of_length_le (by rw [List.length_drop]; omega)] at h0
    exact h0 : Rd w' (some ⟨g, (k + 1) * 3, none⟩) (rcs (R.drop (k + 1)))))
  have HBA := Shut.mk hba
  clear hba
  go_wp2_with fail
  rcases Nat.eq_or_lt_of_le hkc2 with hck | hck
  · have hNk : N = k + 1 := by omega
    have HD0 := Shut.mk (show rcs (R.drop (k + 1)) = [] from List.eq_nil_of_length_eq_zero (by rw [HDL.out]; omega))
    subst hNk
    subst hck
    have hkk : (k : Int) ≤ (k : Int) + 1 := by omega
    have hkk2 : (k : Int) + 1 ≤ (k : Int) + 1 := by omega
    go_region_law (first
      | (refine step_append _ (by rfl) _ _ _ (by rfl) 66 i0 _ 3 40 Try.underlying51 hi0 hz0 hz1 hz2 rfl (by decide) _ _ _ (by rfl) HOE.out _ k (k + 1) _ (by rfl) HTL.out HRT.out (rcs_one _) (by simp only [maxLen]; omega) (by omega) ?_
         intro v7 w7 hap
         obtain ⟨A7, c7, hv7, _⟩ := hap.own.form
         rw [Nat.zero_add] at hv7
         subst hv7
         have HO7 := Shut.mk (hap.own.cast (Nat.zero_add k) (List.nil_append _))
         have hb7 : Below w.heap.size w w7 := HBA.out.grown hap.grown (by have := HBA.out.size; exact this) (fun r hr => by cases hr; exact hs1)
         have hl7 : ∀ g', (Value.slice A7 k c7).ownBlock = some g' → w.heap.size ≤ g' := fun g' hg' => by
           rcases hap.lies with h | h
           · rw [h] at hg'; cases hg'; exact hs1
           · rw [h] at hg'; injection hg' with hg'; rw [← hg']; exact HBA.out.size
         have e0 : w7.cell? ⟨gx, 0, none⟩ = some (.slice (some ⟨g, 0, none⟩) (k + 1) (k + 1)) := (hb7.cell HB.out.lt).trans HG0.out
         have HB7 := Shut.mk hb7
         have HL7 := Shut.mk hl7
         clear hap hb7 hl7)
      | (refine step_append _ (by rfl) _ _ _ (by rfl) 66 i0 _ 3 40 Try.underlying51 hi0 hz0 hz1 hz2 rfl (by decide) _ _ _ (by rfl) HO7.out _ 0 0 [] (by rfl) rfl (Rd.nil _ _) (by simp) (by simp only [maxLen]; omega) (by omega) ?_
         intro v8 w8 hap
         obtain ⟨A8, c8, hv8, _⟩ := hap.own.form
         subst hv8
         have HO8 := Shut.mk hap.own
         have hb8 : Below w.heap.size w w8 := HB7.out.grown hap.grown HB7.out.size (fun r hr => HL7.out r hr)
         have hl8 : ∀ g', (Value.slice A8 (k + 0) c8).ownBlock = some g' → w.heap.size ≤ g' := fun g' hg' => by
           rcases hap.lies with h | h
           · rw [h] at hg'; exact HL7.out g' hg'
           · rw [h] at hg'; injection hg' with hg'; rw [← hg']; exact HB7.out.size
         have hbx := HB.out.below hb8 HB.out.lt
         have e0 : w8.cell? ⟨gx, 0, none⟩ = some (.slice (some ⟨g, 0, none⟩) (k + 1) (k + 1)) := (hb8.cell HB.out.lt).trans HG0.out
         have ef : w8.frozen? ⟨gx, 0, none⟩ = false := hbx.free 0
         have HBX := Shut.mk hbx
         have HB8 := Shut.mk hb8
         have HL8 := Shut.mk hl8
         clear hap hb8 hl8 hbx))
    all_goals (
      have hK : Kb w (w8.setCell ⟨gx, 0, none⟩ (.slice A8 (k + 0) c8)) (gx :: v.ownBlock.toList) := (Kb.of_below HB8.out _).setCell (by simp) _
      have hb9 := HBX.out.set_ 0 (.slice A8 (k + 0) c8)
      have ho9 := HO8.out.keep fun x hx => Below.heap_setCell w8 ⟨gx, 0, none⟩ (.slice A8 (k + 0) c8) x (own_blk_ne HO8.out HBX.out (by decide) x hx)
      have hrw : ∀ c ∈ R, Own (w8.setCell ⟨gx, 0, none⟩ (.slice A8 (k + 0) c8)) 5 1 c.v c.b.length (bys c.b) := fun c hc => ((HR.out.rows c hc).below HB8.out fun x hx => (HR.out.rows c hc).block_lt hx).keep fun x hx => Below.heap_setCell w8 ⟨gx, 0, none⟩ _ x (HR.out.own_ne hc x hx).1
      have hRR : RefAt (w8.setCell ⟨gx, 0, none⟩ (.slice A8 (k + 0) c8)) gx (.slice A8 (k + 0) c8) last (R.take k ++ R.drop (k + 1)) := by
        refine ⟨hb9, ho9.cast ?_ (by rw [rcs_append, HD0.out]), fun d hd => hrw d ?_⟩
        · rw [List.length_append, List.length_take, List.length_drop, ← HN.out]
          omega
        · rcases List.mem_append.1 hd with hd | hd
          · exact List.mem_of_mem_take hd
          · exact List.mem_of_mem_drop hd
      have HRR := Shut.mk hRR
      have HK := Shut.mk hK
      clear hK hb9 ho9 hrw hRR
      go_wp2_with fail
      go_ret
      exact ⟨rfl, _, HRR.out, HK.out, HL8.out⟩)
  · have hck2 : ¬ cap = k + 1 := by omega
    go_region_law (first
      | (refine step_append _ (by rfl) _ _ _ (by rfl) 66 i0 _ 3 40 Try.underlying51 hi0 hz0 hz1 hz2 rfl (by decide) _ _ _ (by rfl) HOE.out _ k cap _ (by rfl) HTL.out HRT.out (rcs_one _) (by simp only [maxLen]; omega) (by omega) ?_
         intro v7 w7 hap
         obtain ⟨A7, c7, hv7, _⟩ := hap.own.form
         rw [Nat.zero_add] at hv7
         subst hv7
         have HO7 := Shut.mk (hap.own.cast (Nat.zero_add k) (List.nil_append _))
         have hb7 : Below w.heap.size w w7 := HBA.out.grown hap.grown (by have := HBA.out.size; exact this) (fun r hr => by cases hr; exact hs1)
         have hl7 : ∀ g', (Value.slice A7 k c7).ownBlock = some g' → w.heap.size ≤ g' := fun g' hg' => by
           rcases hap.lies with h | h
           · rw [h] at hg'; cases hg'; exact hs1
           · rw [h] at hg'; injection hg' with hg'; rw [← hg']; exact HBA.out.size
         have e0 : w7.cell? ⟨gx, 0, none⟩ = some (.slice (some ⟨g, 0, none⟩) N cap) := (hb7.cell HB.out.lt).trans HG0.out
         have HR7 := Shut.mk (HRD.out w7 hb7)
         have HB7 := Shut.mk hb7
         have HL7 := Shut.mk hl7
         clear hap hb7 hl7)
      | (refine step_append _ (by rfl) _ _ _ (by rfl) 66 i0 _ 3 40 Try.underlying51 hi0 hz0 hz1 hz2 rfl (by decide) _ _ _ (by rfl) HO7.out _ (N - (k + 1)) (cap - (k + 1)) _ (by rfl) HDL.out HR7.out (rcs_one _) (by simp only [maxLen]; omega) (by omega) ?_
         intro v8 w8 hap
         obtain ⟨A8, c8, hv8, _⟩ := hap.own.form
         subst hv8
         have HO8 := Shut.mk hap.own
         have hb8 : Below w.heap.size w w8 := HB7.out.grown hap.grown HB7.out.size (fun r hr => HL7.out r hr)
         have hl8 : ∀ g', (Value.slice A8 (k + (N - (k + 1))) c8).ownBlock = some g' → w.heap.size ≤ g' := fun g' hg' => by
           rcases hap.lies with h | h
           · rw [h] at hg'; exact HL7.out g' hg'
           · rw [h] at hg'; injection hg' with hg'; rw [← hg']; exact HB7.out.size
         have hbx := HB.out.below hb8 HB.out.lt
         have e0 : w8.cell? ⟨gx, 0, none⟩ = some (.slice (some ⟨g, 0, none⟩) N cap) := (hb8.cell HB.out.lt).trans HG0.out
         have ef : w8.frozen? ⟨gx, 0, none⟩ = false := hbx.free 0
         have HBX := Shut.mk hbx
         have HB8 := Shut.mk hb8
         have HL8 := Shut.mk hl8
         clear hap hb8 hl8 hbx))
    all_goals (
      have hK : Kb w (w8.setCell ⟨gx, 0, none⟩ (.slice A8 (k + (N - (k + 1))) c8)) (gx :: v.ownBlock.toList) := (Kb.of_below HB8.out _).setCell (by simp) _
      have hb9 := HBX.out.set_ 0 (.slice A8 (k + (N - (k + 1))) c8)
      have ho9 := HO8.out.keep fun x hx => Below.heap_setCell w8 ⟨gx, 0, none⟩ (.slice A8 (k + (N - (k + 1))) c8) x (own_blk_ne HO8.out HBX.out (by decide) x hx)
      have hrw : ∀ c ∈ R, Own (w8.setCell ⟨gx, 0, none⟩ (.slice A8 (k + (N - (k + 1))) c8)) 5 1 c.v c.b.length (bys c.b) := fun c hc => ((HR.out.rows c hc).below HB8.out fun x hx => (HR.out.rows c hc).block_lt hx).keep fun x hx => Below.heap_setCell w8 ⟨gx, 0, none⟩ _ x (HR.out.own_ne hc x hx).1
      have hRR : RefAt (w8.setCell ⟨gx, 0, none⟩ (.slice A8 (k + (N - (k + 1))) c8)) gx (.slice A8 (k + (N - (k + 1))) c8) last (R.take k ++ R.drop (k + 1)) := by
        refine ⟨hb9, ho9.cast ?_ (rcs_append _ _).symm, fun d hd => hrw d ?_⟩
        · rw [List.length_append, List.length_take, List.length_drop, ← HN.out]
          omega
        · rcases List.mem_append.1 hd with hd | hd
          · exact List.mem_of_mem_take hd
          · exact List.mem_of_mem_drop hd
      have HRR := Shut.mk hRR
      have HK := Shut.mk hK
      clear hK hb9 ho9 hrw hRR
      go_wp2_with fail
      go_ret
      exact ⟨rfl, _, HRR.out, HK.out, HL8.out⟩)
end
end Go.Proofs.Ytdnbdmffaoimgaa
