/- Walks: the document's net: Dial, Write. -/
import Derived.Test.YtdnbdmffaoimgaaRefN2
namespace Go.Proofs.Ytdnbdmffaoimgaa
open Go.RowKit Go.Maps
set_option linter.unusedSimpArgs false
set_option linter.unusedVariables false
set_option maxRecDepth 100000

theorem info_rc2 : (Try.prog.info? 66).map (fun i => (i.zero, i.size, i.bytes)) = some (some (.agg #[.int .i64 0, .int .i64 0, .slice none 0 0]), 3, 40) := by kernel_rfl
section
variable {w w' : World} {gx last : Nat} {v : Value} {R : List RC}
theorem rdial_bad (a : Int) (ha : a < 0 ∨ 4294967295 < a) (w : World) :
    Calls Try.prog 16 #[.pointer (some ⟨gx, 0, none⟩), .int .i64 a] w fun e w' => e = .returned (.tuple #[.int .i64 0, .int .i64 1]) ∧ w = w' := by
  by_cases hn : a < 0
  · clear ha
    go_enter Try.func16, Try.ntmps16
    go_wp2_with fail
    go_ret2
    exact ⟨rfl, rfl⟩
  · have ha' : a ≥ 4294967296 := by omega
    clear ha
    go_enter Try.func16, Try.ntmps16
    go_wp2_with fail
    go_ret2
    exact ⟨rfl, rfl⟩
set_option maxHeartbeats 2000000 in
theorem rdial_calls (hR : RefAt w gx v last R) (a : Int) (h1 : 0 ≤ a) (h2 : a ≤ 4294967295) (hl : last < 1000000000) (hn : R.length < 1000000) :
    Calls Try.prog 16 #[.pointer (some ⟨gx, 0, none⟩), .int .i64 a] w fun e w' => e = .returned (.tuple #[.int .i64 ((last : Int) + 1), .int .i64 0]) ∧
      ∃ v', RefAt w' gx v' (last + 1) (R ++ [⟨(last : Int) + 1, a, none, 0, []⟩]) ∧ Kb w w' (gx :: v.ownBlock.toList) ∧ ∀ g, v'.ownBlock = some g → v.ownBlock = some g ∨ w.heap.size ≤ g := by
  obtain ⟨i0, hi, hz0, hz1, hz2⟩ := info_parts info_rc2
  obtain ⟨N, hN⟩ : ∃ N, N = R.length := ⟨_, rfl⟩
  have ho := hR.own
  rw [← hN] at ho hn
  obtain ⟨A1, c1, hv, _⟩ := ho.form
  rw [hv] at ho
  have q0 : w.cell? ⟨gx, 0, none⟩ = some (.slice A1 N c1) := by rw [← hv]; exact hR.blk.cell 0
  have q1 : w.cell? ⟨gx, 1, none⟩ = some (.int .i64 (last : Int)) := hR.blk.cell 1
  have f1 := hR.blk.free 1
  have hrn := hR.row_ne
  rw [hv] at hrn
  have HR := Shut.mk hR
  have HN := Shut.mk hN
  have HV := Shut.mk hv
  have hb1 := hR.blk.set_ 1 (.int .i64 ((last : Int) + 1))
  rw [hv] at hb1
  have ho1 : Own (w.setCell ⟨gx, 1, none⟩ (.int .i64 ((last : Int) + 1))) 66 3 (.slice A1 N c1) N (rcs R) := ho.keep fun g hg => Below.heap_setCell w _ _ g (hrn g hg)
  have hk1 : Kb w (w.setCell ⟨gx, 1, none⟩ (.int .i64 ((last : Int) + 1))) [gx] := (Kb.refl w _).setCell (by simp) _
  have hw1 : IntKind.i64.wrap ((last : Int) + 1) = (last : Int) + 1 := by rw [IntKind.wrap_i64]; omega
  clear hR hN hv
  go_enter Try.func16, Try.ntmps16
  go_wp2_with fail
  generalize w.setCell ⟨gx, 1, none⟩ (.int .i64 ((last : Int) + 1)) = W1 at hb1 ho1 hk1 ⊢
  clear q0 q1 f1
  have r0 : W1.cell? ⟨gx, 0, none⟩ = some (.slice A1 N c1) := hb1.cell 0
  have r1 : W1.cell? ⟨gx, 1, none⟩ = some (.int .i64 ((last : Int) + 1)) := hb1.cell 1
  have hba := hb1.alloc (.cells #[.int .i64 ((last : Int) + 1), .int .i64 a, .slice none 0 0] 66)
  have s0 : (W1.alloc (.cells #[.int .i64 ((last : Int) + 1), .int .i64 a, .slice none 0 0] 66)).cell? ⟨gx, 0, none⟩ = some (.slice A1 N c1) := hba.cell 0
  have s1 : (W1.alloc (.cells #[.int .i64 ((last : Int) + 1), .int .i64 a, .slice none 0 0] 66)).cell? ⟨gx, 1, none⟩ = some (.int .i64 ((last : Int) + 1)) := hba.cell 1
  have hoa : Own (W1.alloc (.cells #[.int .i64 ((last : Int) + 1), .int .i64 a, .slice none 0 0] 66)).drew 66 3 (.slice A1 N c1) N (rcs R) := ho1.alloc _
  have hra : Rd (W1.alloc (.cells #[.int .i64 ((last : Int) + 1), .int .i64 a, .slice none 0 0] 66)).drew (some ⟨W1.heap.size, 0, none⟩) [.int .i64 ((last : Int) + 1), .int .i64 a, .slice none 0 0] := rd_new W1 _ _
  have hka : Kb w (W1.alloc (.cells #[.int .i64 ((last : Int) + 1), .int .i64 a, .slice none 0 0] 66)).drew [gx] := by have h := hk1.alloc (.cells #[.int .i64 ((last : Int) + 1), .int .i64 a, .slice none 0 0] 66); exact ⟨h.os, h.tape, h.output, h.size, h.block⟩
  have HBA := Shut.mk hba
  have HOA := Shut.mk hoa
  have HRA := Shut.mk hra
  have HKA := Shut.mk hka
  clear hba hoa hra hka ho1 hb1
  go_region_law (first
    | (refine step_append _ (by rfl) _ _ _ (by rfl) 66 i0 _ 3 40 Try.underlying51 hi hz0 hz1 hz2 rfl (by decide) _ _ _ (by rfl) HOA.out _ 1 1 _ (by rfl) rfl HRA.out (by simp [Value.oneCell']) (by simp only [maxLen]; omega) (by omega) ?_
       intro v7 w7 hap
       obtain ⟨A7, c7, hv7, _⟩ := hap.own.form
       subst hv7
       have hb7 : Blk w7 gx 53 #[.slice A1 N c1, .int .i64 ((last : Int) + 1)] := (hap.grown.block gx HBA.out.lt (fun e => hrn gx e.symm rfl)).trans HBA.out
       have t0 : w7.cell? ⟨gx, 0, none⟩ = some (.slice A1 N c1) := hb7.cell 0
       have t1 : w7.cell? ⟨gx, 1, none⟩ = some (.int .i64 ((last : Int) + 1)) := hb7.cell 1
       have tf := hb7.free 0))
  all_goals (
    have hsz := HKA.out.size
    have hgrw : (W1.alloc (.cells #[.int .i64 ((last : Int) + 1), .int .i64 a, .slice none 0 0] 66)).drew.grownBy w7 v.ownBlock := by rw [HV.out]; exact hap.grown
    have hli : (Value.slice A7 (N + 1) c7).ownBlock = v.ownBlock ∨ (Value.slice A7 (N + 1) c7).ownBlock = some (W1.alloc (.cells #[.int .i64 ((last : Int) + 1), .int .i64 a, .slice none 0 0] 66)).drew.heap.size := by rw [HV.out]; exact hap.lies
    have hK := (((HKA.out.mono (L' := gx :: v.ownBlock.toList) (by simp)).trans (Kb.of_grown hgrw (L := gx :: v.ownBlock.toList) (fun r hr => by simp [hr])) (fun x hx => .inl hx)).setCell (p := ⟨gx, 0, none⟩) (by simp) (.slice A7 (N + 1) c7))
    have hb8 := hb7.set_ 0 (.slice A7 (N + 1) c7)
    have ho8 := (hap.own.keep fun g hg => Below.heap_setCell w7 ⟨gx, 0, none⟩ (.slice A7 (N + 1) c7) g (own_blk_ne hap.own hb7 (by decide) g hg))
    generalize w7.setCell ⟨gx, 0, none⟩ (.slice A7 (N + 1) c7) = w8 at hK hb8 ho8 ⊢
    have HRR : RefAt w8 gx (.slice A7 (N + 1) c7) (last + 1) (R ++ [⟨(last : Int) + 1, a, none, 0, []⟩]) := by
      refine ⟨hb8, ho8.cast (by rw [List.length_append, HN.out]; rfl) (by rw [rcs_append]; rfl), fun c hc => ?_⟩
      rcases List.mem_append.1 hc with hc | hc
      · refine hK.own (HR.out.rows c hc) fun g hg => ?_
        obtain ⟨h8, h9⟩ := HR.out.own_ne hc g hg
        simp only [List.mem_cons, Option.mem_toList, not_or]
        exact ⟨h8, fun e => h9 e⟩
      · rw [List.mem_singleton.1 hc]
        exact Own.nil _ _ _
    have u1 : w8.cell? ⟨gx, 1, none⟩ = some (.int .i64 ((last : Int) + 1)) := hb8.cell 1
    have HH := Shut.mk HRR
    have HK := Shut.mk hK
    clear HRR hK hb8 ho8 hgrw hap hb7
    go_wp2_with fail
    go_ret2
    refine ⟨rfl, _, HH.out, HK.out, fun g hg => ?_⟩
    rcases hli with h | h
    · exact .inl (h ▸ hg)
    · rw [h] at hg
      injection hg with hg
      exact .inr (hg ▸ hsz))
end
end Go.Proofs.Ytdnbdmffaoimgaa
