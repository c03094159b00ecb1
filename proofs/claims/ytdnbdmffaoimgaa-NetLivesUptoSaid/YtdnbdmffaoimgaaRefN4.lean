/- Walks: the document's net: Write. -/
import Derived.Test.YtdnbdmffaoimgaaRefN3
namespace Go.Proofs.Ytdnbdmffaoimgaa
open Go.RowKit Go.Maps
set_option linter.unusedSimpArgs false
set_option linter.unusedVariables false
set_option maxRecDepth 100000

section
variable {w w' : World} {gx last : Nat} {v : Value} {R : List RC}
set_option maxHeartbeats 4000000 in
theorem rwrite_calls (hR : RefAt w gx v last R) (id : Int) (hl : R.length < 1000000) {c : RC} (hc : R[idx R id]? = some c) (A : Option Addr) (m cm : Nat) (b : List UInt8) (hr : RdB w A b) (hm : b.length = m) (hlen : c.b.length + m ≤ reach) :
    Calls Try.prog 17 #[.pointer (some ⟨gx, 0, none⟩), .int .i64 id, .slice A m cm] w fun e w' => e = .returned (.int .i64 0) ∧
      ∃ A8 c8, RefAt w' gx v last (R.set (idx R id) ⟨c.id, c.addr, A8, c8, c.b ++ b⟩) ∧ Kb w w' (gx :: v.ownBlock.toList) ∧ ∀ g, (Value.slice A8 (c.b ++ b).length c8).ownBlock = some g → w.heap.size ≤ g := by
  obtain ⟨i0, hi0, hz0, hz1, hz2⟩ := info_parts info_u8
  have HP := Shut.mk (place_calls hR id hl)
  have hi : idx R id < R.length := (List.getElem?_eq_some_iff.1 hc).1
  obtain ⟨g, cap, hv, hnc, hcm, hcell⟩ := hR.head (by omega)
  have HC := Shut.mk (hcell (idx R id * 3 + 2) _ (rcs_get hc 2 (by omega)))
  have HB := Shut.mk hR.blk
  rw [if_pos hi] at HP
  unfold maxLen at hcm
  unfold reach at hlen
  have HR := Shut.mk hR
  have HX := Shut.mk hc
  have HV := Shut.mk hv
  have HRB := Shut.mk hr
  have HM := Shut.mk hm
  have HOC := Shut.mk (hR.rows c (List.mem_of_getElem? hc))
  have HBL := Shut.mk (bys_length b)
  have HCL := Shut.mk (bys_length c.b)
  obtain ⟨NB, hNB⟩ : ∃ NB, NB = c.b.length := ⟨_, rfl⟩
  rw [← hNB] at hlen
  have HNB := Shut.mk hNB
  obtain ⟨k, hk⟩ : ∃ k, k = idx R id := ⟨_, rfl⟩
  rw [← hk] at HP HC hi HX ⊢
  obtain ⟨N, hN⟩ : ∃ N, N = R.length := ⟨_, rfl⟩
  rw [← hN] at hi hl hnc
  have HN := Shut.mk hN
  have hgl : g < w.heap.size := World.block_lt_of_cell? w _ HC.out
  clear hcell hc hR hk hv hr hm hNB hN
  go_enter Try.func17, Try.ntmps17
  go_wp2_with fail
  refine HP.out.mono ?_
  rintro e w1 ⟨rfl, hb1⟩
  have c0 : w1.cell? ⟨gx, 0, none⟩ = some (.slice (some ⟨g, 0, none⟩) N cap) := by rw [HN.out, ← HV.out]; exact (hb1.cell HB.out.lt).trans (HB.out.cell 0)
  have c2 : w1.cell? ⟨g, k * 3 + 2, none⟩ = some (.slice c.A NB c.cp) := by rw [HNB.out]; exact (hb1.cell hgl).trans HC.out
  have hba : Below w.heap.size w (w1.alloc (.cells #[] 5)).drew := by have := hb1.alloc hb1.size (.cells #[] 5); exact ⟨this.os, this.tape, this.output, this.size, this.block⟩
  have d0 : (w1.alloc (.cells #[] 5)).cell? ⟨gx, 0, none⟩ = some (.slice (some ⟨g, 0, none⟩) N cap) := (World.cell?_alloc_lt w1 _ _ (World.block_lt_of_cell? w1 _ c0)).trans c0
  have d2 : (w1.alloc (.cells #[] 5)).cell? ⟨g, k * 3 + 2, none⟩ = some (.slice c.A NB c.cp) := (World.cell?_alloc_lt w1 _ _ (World.block_lt_of_cell? w1 _ c2)).trans c2
  have HOE := Shut.mk (show Own (w1.alloc (.cells #[] 5)).drew 5 1 (.slice (some ⟨w1.heap.size, 0, none⟩) 0 0) 0 [] from own_empty w1 _ _)
  have HRC := Shut.mk (show Rd (w1.alloc (.cells #[] 5)).drew c.A (bys c.b) from by
    have h9 := HOC.out.below hba fun g hg => HOC.out.block_lt hg
    obtain ⟨A9, c9, e9, h8, _⟩ := h9.form
    have : c.A = A9 := by unfold RC.v at e9; injection e9
    rw [this]
    exact h8)
  have HBA := Shut.mk hba
  have hs1 : w.heap.size ≤ w1.heap.size := hb1.size
  have hkI : (k : Int) < (N : Int) := by omega
  have hk0 : ¬ (k : Int) < 0 := by omega
  clear hba
  go_wp2_with fail
  go_region_law (first
    | (refine step_append _ (by rfl) _ _ _ (by rfl) 5 i0 _ 1 1 Try.underlying29 hi0 hz0 hz1 hz2 rfl (by decide) _ _ _ (by rfl) HOE.out _ NB c.cp _ (by rfl) (by rw [HCL.out, HNB.out, Nat.mul_one]) HRC.out (bys_one _) (by simp only [maxLen]; omega) (by omega) ?_
       intro v7 w7 hap
       obtain ⟨A7, c7, hv7, _⟩ := hap.own.form
       rw [Nat.zero_add] at hv7
       subst hv7
       have HO7 := Shut.mk (hap.own.cast (Nat.zero_add NB) (List.nil_append _))
       have hb7 : Below w.heap.size w w7 := HBA.out.grown hap.grown (by have := HBA.out.size; exact this) (fun r hr => by cases hr; exact hs1)
       have hl7 : ∀ g', (Value.slice A7 NB c7).ownBlock = some g' → w.heap.size ≤ g' := fun g' hg' => by
         rcases hap.lies with h | h
         · rw [h] at hg'; cases hg'; exact hs1
         · rw [h] at hg'; injection hg' with hg'; rw [← hg']; exact HBA.out.size
       have e0 : w7.cell? ⟨gx, 0, none⟩ = some (.slice (some ⟨g, 0, none⟩) N cap) := by rw [HN.out, ← HV.out]; exact (hb7.cell HB.out.lt).trans (HB.out.cell 0)
       have e2 : w7.cell? ⟨g, k * 3 + 2, none⟩ = some (.slice c.A NB c.cp) := by rw [HNB.out]; exact (hb7.cell hgl).trans HC.out
       have HR7 := Shut.mk (rd_of_rdB (HRB.out.keep hb7))
       have HB7 := Shut.mk hb7
       have HL7 := Shut.mk hl7
       clear hap hb7 hl7)
    | (refine step_append _ (by rfl) _ _ _ (by rfl) 5 i0 _ 1 1 Try.underlying29 hi0 hz0 hz1 hz2 rfl (by decide) _ _ _ (by rfl) HO7.out _ m cm _ (by rfl) (by rw [HBL.out, HM.out, Nat.mul_one]) HR7.out (bys_one _) (by simp only [maxLen]; omega) (by omega) ?_
       intro v8 w8 hap
       obtain ⟨A8, c8, hv8, _⟩ := hap.own.form
       subst hv8
       have HO8 := Shut.mk hap.own
       have hb8 : Below w.heap.size w w8 := HB7.out.grown hap.grown HB7.out.size (fun r hr => HL7.out r hr)
       have hl8 : ∀ g', (Value.slice A8 (NB + m) c8).ownBlock = some g' → w.heap.size ≤ g' := fun g' hg' => by
         rcases hap.lies with h | h
         · rw [h] at hg'; exact HL7.out g' hg'
         · rw [h] at hg'; injection hg' with hg'; rw [← hg']; exact HB7.out.size
       have hR8 := HR.out.keep (Kb.of_below hb8 []) (by simp)
       have e0 : w8.cell? ⟨gx, 0, none⟩ = some (.slice (some ⟨g, 0, none⟩) N cap) := by rw [HN.out, ← HV.out]; exact (hb8.cell HB.out.lt).trans (HB.out.cell 0)
       have e2 : w8.cell? ⟨g, k * 3 + 2, none⟩ = some (.slice c.A NB c.cp) := by rw [HNB.out]; exact (hb8.cell hgl).trans HC.out
       have ef : w8.frozen? ⟨g, k * 3 + 2, none⟩ = false := by
         have := hR8.own
         rw [HV.out] at this
         exact this.free_ _
       have HR8 := Shut.mk hR8
       have HB8 := Shut.mk hb8
       have HL8 := Shut.mk hl8
       clear hap hb8 hl8 hR8))
  all_goals (
    have e9 : (Value.slice A8 (NB + m) c8) = .slice A8 (c.b ++ b).length c8 := by rw [List.length_append, HM.out, HNB.out]
    have hT := HR8.out.turn HX.out HV.out (A := A8) (cp := c8) (b := c.b ++ b) (by rw [← e9]; exact HO8.out.cast (by rw [List.length_append, HM.out, HNB.out]) (bys_append _ _).symm)
    have hK : Kb w (w8.setCell ⟨g, k * 3 + 2, none⟩ (.slice A8 (c.b ++ b).length c8)) (gx :: v.ownBlock.toList) := (Kb.of_below HB8.out _).setCell (by rw [HV.out]; simp [Value.ownBlock]) _
    rw [e9]
    have HT := Shut.mk hT
    have HK := Shut.mk hK
    have HL9 := Shut.mk (e9 ▸ HL8.out)
    clear hT hK
    go_wp2_with fail
    go_ret
    exact ⟨rfl, A8, c8, HT.out, HK.out, HL9.out⟩)
end
end Go.Proofs.Ytdnbdmffaoimgaa
