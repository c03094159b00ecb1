/- Walks: the document's net: Conns; the calls in the words of its connections alone. -/
import Derived.Test.YtdnbdmffaoimgaaRefN4
import Derived.Test.YtdnbdmffaoimgaaRefN5
namespace Go.Proofs.Ytdnbdmffaoimgaa
open Go.RowKit Go.Maps
set_option linter.unusedSimpArgs false
set_option linter.unusedVariables false
set_option maxRecDepth 100000

section
variable {w w' : World} {gx last : Nat} {v : Value} {R : List RC}
set_option maxHeartbeats 2000000 in
theorem rconns_calls (hR : RefAt w gx v last R) (hl : R.length < 1000000) :
    Calls Try.prog 21 #[.pointer (some ⟨gx, 0, none⟩)] w fun e w' => ∃ u, e = .returned u ∧ Own w' 3 1 u (R.map (·.id)).length ((R.map (·.id)).map Go.encZ) ∧ Below w.heap.size w w' ∧ ∀ g, u.ownBlock = some g → w.heap.size ≤ g := by
  obtain ⟨i0, hi, hz0, hz1, hz2⟩ := info_parts info_i64
  obtain ⟨N, hN⟩ : ∃ N, N = R.length := ⟨_, rfl⟩
  have ho := hR.own
  have q0 : w.cell? ⟨gx, 0, none⟩ = some v := hR.blk.cell 0
  rw [← hN] at ho hl
  obtain ⟨A, c, rfl, hrd, hac, hcm, _⟩ := ho.form
  have HRD := Shut.mk hrd
  have HN := Shut.mk hN
  unfold maxLen at hcm
  clear hR ho hrd hN
  go_enter Try.func21, Try.ntmps21
  go_wp2_with fail
  go_loopw [3, 11] (fun u i wr => ∃ k : Nat, k ≤ N ∧ i = .int .i64 k ∧ Own wr 3 1 u k (((R.take k).map (·.id)).map Go.encZ) ∧ (∀ g, u.ownBlock = some g → w.heap.size ≤ g) ∧ Below w.heap.size w wr) (fun _ i _ => N - (intOf i).toNat)
  case atStart => exact ⟨0, Nat.zero_le _, rfl, Own.nil _ _ _, fun g hg => (by cases hg), Below.refl _ _⟩
  case round =>
    obtain ⟨k, hk, rfl, hou, hnew, hbr⟩ := hrel
    have HBR := Shut.mk hbr
    have HNEW := Shut.mk hnew
    obtain ⟨Au, cu, hu, _⟩ := hou.form
    subst hu
    have HOU := Shut.mk hou
    clear hou hnew
    by_cases hlt : k < N
    · obtain ⟨cc, hcc⟩ : ∃ cc, R[k]? = some cc := ⟨R[k]'(by rw [← HN.out]; exact hlt), List.getElem?_eq_getElem _⟩
      obtain ⟨ad, rfl, hc⟩ := HRD.out (fun e => by have := rcs_length R; rw [e, ← HN.out] at this; simp at this; omega)
      have c0 := hc (k * 3) _ (rcs_get hcc 0 (by omega))
      have c1 := hc (k * 3 + 1) _ (rcs_get hcc 1 (by omega))
      have c2 := hc (k * 3 + 2) _ (rcs_get hcc 2 (by omega))
      have d0 : wr.cell? (ad.add (k * 3)) = some (.int .i64 cc.id) := (hbr.cell (World.block_lt_of_cell? w _ c0)).trans c0
      have d1 : wr.cell? ⟨(ad.add (k * 3)).block, (ad.add (k * 3)).off + 1, none⟩ = some (.int .i64 cc.addr) := by
        rw [addr_fld ad _ _ (by omega)]
        exact (hbr.cell (World.block_lt_of_cell? w _ c1)).trans c1
      have d2 : wr.cell? ⟨(ad.add (k * 3)).block, (ad.add (k * 3)).off + 2, none⟩ = some (.slice cc.A cc.b.length cc.cp) := by
        rw [addr_fld ad _ _ (by omega)]
        exact (hbr.cell (World.block_lt_of_cell? w _ c2)).trans c2
      have HTK := Shut.mk (show ((R.take (k + 1)).map (·.id)).map Go.encZ = ((R.take k).map (·.id)).map Go.encZ ++ [.int .i64 cc.id] by
        rw [List.take_add_one, hcc]
        simp [Go.encZ])
      clear c0 c1 c2 hc
      have hkI : (k : Int) < (N : Int) := by omega
      have hoa := (HOU.out.alloc (.cells #[.int .i64 cc.id, .int .i64 cc.addr, .slice cc.A cc.b.length cc.cp] 66)).alloc (.cells #[.int .i64 cc.id] 3)
      have hra := rd_new (wr.alloc (.cells #[.int .i64 cc.id, .int .i64 cc.addr, .slice cc.A cc.b.length cc.cp] 66)) #[.int .i64 cc.id] 3
      rw [World.size_alloc] at hra
      have hba := (HBR.out.alloc HBR.out.size (.cells #[.int .i64 cc.id, .int .i64 cc.addr, .slice cc.A cc.b.length cc.cp] 66)).alloc (by rw [World.size_alloc]; have := HBR.out.size; omega) (.cells #[.int .i64 cc.id] 3)
      have hsz := HBR.out.size
      go_wp2_with (
        at_builtin
        refine wpList_append _ rfl _ _ _ rfl 3 i0 _ 1 8 Try.underlying38 hi hz0 hz1 hz2 rfl (by decide) _ _ _ rfl hoa _ 1 1 _ rfl rfl hra (by simp [Value.oneCell']) (by simp only [maxLen]; omega) (by omega) ?_
        intro v4 w4 hap)
      case roundEnd =>
        refine ⟨⟨k + 1, by omega, by go_num, hap.own.cast rfl HTK.out.symm, fun g hg => ?_, hba.grown hap.grown hba.size (fun r hr => HNEW.out r hr)⟩, by simp [intOf]; omega⟩
        rcases hap.lies with h | h
        · exact HNEW.out g (h ▸ hg)
        · rw [h] at hg
          injection hg with hg
          rw [← hg]
          exact hba.size
    · obtain rfl : k = N := by omega
      have hkI : ¬ (k : Int) < (k : Int) := by omega
      have HT := Shut.mk (show R.take k = R by rw [HN.out, List.take_length])
      go_wp2_with fail
      go_ret
      have ho := HOU.out
      rw [HT.out] at ho
      exact ⟨_, rfl, ho.cast (by simpa using HN.out) (by simp), HBR.out, HNEW.out⟩
end
end Go.Proofs.Ytdnbdmffaoimgaa
