/- Walks: the document's disk: isName, List, drop. -/
import Derived.Test.YtjmaimpfplojpaaRd3
namespace Go.Proofs.Ytjmaimpfplojpaa
open Go.RowKit Go.Maps
set_option linter.unusedSimpArgs false
set_option linter.unusedVariables false
set_option maxRecDepth 100000

theorem info_str : (Try.prog.info? 9).map (fun i => (i.zero, i.size, i.bytes)) = some (some (.string ByteArray.empty), 1, 16) := by kernel_rfl
theorem odd_iff (x : UInt8) : oddB x = true ↔ (((x.toNat : Int) < 97 ∨ (x.toNat : Int) > 122) ∧ ((x.toNat : Int) < 48 ∨ (x.toNat : Int) > 57) ∧ (x.toNat : Int) ≠ 45 ∧ (x.toNat : Int) ≠ 46) := by
  unfold oddB
  have e1 : (x < 97) = ((x.toNat : Int) < 97) := by rw [UInt8.lt_iff_toNat_lt]; simp; omega
  have e2 : (x > 122) = ((x.toNat : Int) > 122) := by rw [gt_iff_lt, UInt8.lt_iff_toNat_lt]; simp; omega
  have e3 : (x < 48) = ((x.toNat : Int) < 48) := by rw [UInt8.lt_iff_toNat_lt]; simp; omega
  have e4 : (x > 57) = ((x.toNat : Int) > 57) := by rw [gt_iff_lt, UInt8.lt_iff_toNat_lt]; simp; omega
  have e5 : (x = 45) = ((x.toNat : Int) = 45) := by rw [← UInt8.toNat_inj]; simp; omega
  have e6 : (x = 46) = ((x.toNat : Int) = 46) := by rw [← UInt8.toNat_inj]; simp; omega
  simp only [e1, e2, e3, e4, bne, Bool.and_eq_true, Bool.or_eq_true, decide_eq_true_eq, Bool.not_eq_true', beq_eq_false_iff_ne, ne_eq, e5, e6]
  constructor
  · rintro ⟨⟨⟨h1, h2⟩, h3⟩, h4⟩
    exact ⟨h1, h2, h3, h4⟩
  · rintro ⟨h1, h2, h3, h4⟩
    exact ⟨⟨⟨h1, h2⟩, h3⟩, h4⟩
set_option maxHeartbeats 2000000 in
theorem risName_calls (s : ByteArray) (w : World) (hs : s.size ≤ reach) :
    Calls Try.prog 59 #[.string s] w fun e w' => e = .returned (.bool (nameOk s.data.toList)) ∧ w = w' := by
  unfold reach at hs
  have hsz := Lib.size_eq s
  have HI := Shut.mk (fun (k : Nat) (hk : k < s.data.toList.length) => (fun w => by
    rw [run_index_string w 9 s .i64 k Try.underlying9, dif_pos ⟨by omega, by omega⟩]
    have hk2 : k < s.data.size := by rw [← Array.length_toList]; exact hk
    have e : s.data.toList.getD k 0 = s.data[k] := by rw [List.getD_eq_getElem?_getD, List.getElem?_eq_getElem hk]; rfl
    rw [e]
    rfl : ∀ w : World, (Instr.index 9 (.string s) (.int .i64 (k : Int))).run Try.prog w = .ok (.int .u8 ((s.data.toList.getD k 0).toNat : Int)) w))
  obtain ⟨l, hl⟩ : ∃ l, l = s.data.toList := ⟨_, rfl⟩
  rw [← hl] at hsz HI ⊢
  have HL := Shut.mk hsz
  obtain ⟨nz, hnz⟩ : ∃ nz, nz = nameOk l := ⟨_, rfl⟩
  rw [← hnz]
  have HZ := Shut.mk hnz
  clear hl hsz hnz
  go_enter Try.func59, Try.ntmps59
  go_wp2_with fail
  go_loop [3] (fun i => ∃ k : Nat, k ≤ s.size ∧ i = .int .i64 k ∧ (l.take k).any oddB = false) (fun i => s.size - (intOf i).toNat)
  case atStart => exact ⟨0, Nat.zero_le _, rfl, by simp⟩
  case round =>
    obtain ⟨k, hk, rfl, hany⟩ := hrel
    by_cases hlt : k < s.size
    · have hkI : (k : Int) < (s.size : Int) := by omega
      have hix := HI.out k (by rw [← HL.out]; exact hlt)
      have ht := any_take oddB l k (by rw [← HL.out]; exact hlt)
      rw [hany, Bool.false_or] at ht
      obtain ⟨z, hz⟩ : ∃ z : Int, z = ((l.getD k 0).toNat : Int) := ⟨_, rfl⟩
      have ho := odd_iff (l.getD k 0)
      rw [← hz] at hix ho
      by_cases hod : oddB (l.getD k 0) = true
      · obtain ⟨h1, h2, h3, h4⟩ := ho.1 hod
        rw [hod] at ht
        have HT := Shut.mk (any_take_le oddB l (k + 1) ht)
        have hA : nameOk l = false := by unfold nameOk; rw [HT.out]; simp
        have hzz := HZ.out
        rw [hA] at hzz
        subst hzz
        clear ho hod ht hany hz hA
        have g3 : (z != 45) = true := by simpa using h3
        have g4 : (z != 46) = true := by simpa using h4
        have h1' : z < 97 ∨ (¬ z < 97 ∧ z > 122) := by omega
        have h2' : z < 48 ∨ (¬ z < 48 ∧ z > 57) := by omega
        clear h1 h2 h3 h4
        rcases h1' with h1 | ⟨h1, h5⟩ <;> rcases h2' with h2 | ⟨h2, h6⟩
        · go_wp2_with fail
          go_ret
          exact ⟨rfl, rfl⟩
        · go_wp2_with fail
          go_ret
          exact ⟨rfl, rfl⟩
        · omega
        · go_wp2_with fail
          go_ret
          exact ⟨rfl, rfl⟩
      · have hod' : oddB (l.getD k 0) = false := by simpa using hod
        rw [hod'] at ht
        have HT := Shut.mk ht
        have ho2 : ¬ ((z < 97 ∨ z > 122) ∧ (z < 48 ∨ z > 57) ∧ z ≠ 45 ∧ z ≠ 46) := fun h => hod (ho.2 h)
        clear ho hod hod' ht hany hz
        have hc : (¬ z < 97 ∧ ¬ z > 122) ∨ (z < 97 ∧ ¬ z < 48 ∧ ¬ z > 57) ∨ z = 45 ∨ z = 46 := by omega
        clear ho2
        rcases hc with ⟨g1, g2⟩ | ⟨g1, g2, g3⟩ | rfl | rfl <;>
        (go_wp2_with fail
         go_round
         case rel => exact ⟨k + 1, by omega, by go_num, HT.out⟩
         case measure => simp [intOf]; omega)
    · obtain rfl : k = s.size := by omega
      have hkI : ¬ (s.size : Int) < (s.size : Int) := by omega
      have hany' : l.any oddB = false := by rw [HL.out, List.take_length] at hany; exact hany
      have hA : nameOk l = (decide (1 ≤ s.size) && decide (s.size ≤ 32)) := by unfold nameOk; rw [hany', ← HL.out]; simp; rfl
      have hzz := HZ.out
      rw [hA] at hzz
      by_cases h1 : 1 ≤ s.size
      · have g1 : (s.size : Int) ≥ 1 := by omega
        by_cases h2 : s.size ≤ 32
        · have g2 : (s.size : Int) ≤ 32 := by omega
          rw [decide_eq_true h1, decide_eq_true h2] at hzz
          subst hzz
          go_wp2_with fail
          go_ret
          exact ⟨rfl, rfl⟩
        · have g2 : ¬ (s.size : Int) ≤ 32 := by omega
          rw [decide_eq_true h1, decide_eq_false h2] at hzz
          subst hzz
          go_wp2_with fail
          go_ret
          exact ⟨rfl, rfl⟩
      · have g1 : ¬ (s.size : Int) ≥ 1 := by omega
        rw [decide_eq_false h1, Bool.false_and] at hzz
        subst hzz
        go_wp2_with fail
        go_ret
        exact ⟨rfl, rfl⟩
section
variable {w w' : World} {gx : Nat} {v : Value} {R : List RF} {room short fuse : Int}
set_option maxHeartbeats 2000000 in
theorem rlist_calls (hR : RdAt w gx v R room short fuse) (hl : R.length < 1000000) :
    Calls Try.prog 49 #[.pointer (some ⟨gx, 0, none⟩)] w fun e w' => ∃ u, e = .returned u ∧ Own w' 9 1 u (R.map (·.k)).length ((R.map (·.k)).map Value.string) ∧ Below w.heap.size w w' ∧ ∀ g, u.ownBlock = some g → w.heap.size ≤ g := by
  obtain ⟨i0, hi, hz0, hz1, hz2⟩ := info_parts info_str
  obtain ⟨N, hN⟩ : ∃ N, N = R.length := ⟨_, rfl⟩
  have ho := hR.own
  have q0 : w.cell? ⟨gx, 0, none⟩ = some v := hR.blk.cell 0
  rw [← hN] at ho hl
  obtain ⟨A, c, rfl, hrd, hac, hcm, _⟩ := ho.form
  have HRD := Shut.mk hrd
  have HN := Shut.mk hN
  unfold maxLen at hcm
  clear hR ho hrd hN
  go_enter Try.func49, Try.ntmps49
  go_wp2_with fail
  go_loopw [3, 11] (fun u i wr => ∃ k : Nat, k ≤ N ∧ i = .int .i64 k ∧ Own wr 9 1 u k (((R.take k).map (·.k)).map Value.string) ∧ (∀ g, u.ownBlock = some g → w.heap.size ≤ g) ∧ Below w.heap.size w wr) (fun _ i _ => N - (intOf i).toNat)
  case atStart => exact ⟨0, Nat.zero_le _, rfl, Own.nil _ _ _, fun g hg => (by cases hg), Below.refl _ _⟩
  case round =>
    obtain ⟨k, hk, rfl, hou, hnew, hbr⟩ := hrel
    have HBR := Shut.mk hbr
    have HNEW := Shut.mk hnew
    obtain ⟨Au, cu, hu, _⟩ := hou.form
    subst hu
    have HOU := Shut.mk hou
    clear hou hnew
    by_cases hlt : k < N
    · obtain ⟨cc, hcc⟩ : ∃ cc, R[k]? = some cc := ⟨R[k]'(by rw [← HN.out]; exact hlt), List.getElem?_eq_getElem _⟩
      obtain ⟨ad, rfl, d0, d1, d2⟩ := rf_cells HRD.out hcc hbr
      have HTK := Shut.mk (show ((R.take (k + 1)).map (·.k)).map Value.string = ((R.take k).map (·.k)).map Value.string ++ [.string cc.k] by
        rw [List.take_add_one, hcc]
        simp)
      have hkI : (k : Int) < (N : Int) := by omega
      have hoa := (HOU.out.alloc (.cells #[.string cc.k, .slice cc.A cc.b.length cc.cp, .int .i64 (cc.syn : Int)] 89)).alloc (.cells #[.string cc.k] 9)
      have hra := rd_new (wr.alloc (.cells #[.string cc.k, .slice cc.A cc.b.length cc.cp, .int .i64 (cc.syn : Int)] 89)) #[.string cc.k] 9
      rw [World.size_alloc] at hra
      have hba := (HBR.out.alloc HBR.out.size (.cells #[.string cc.k, .slice cc.A cc.b.length cc.cp, .int .i64 (cc.syn : Int)] 89)).alloc (by rw [World.size_alloc]; have := HBR.out.size; omega) (.cells #[.string cc.k] 9)
      have hsz := HBR.out.size
      go_wp2_with (
        at_builtin
        refine wpList_append _ rfl _ _ _ rfl 9 i0 _ 1 16 Try.underlying29 hi hz0 hz1 hz2 rfl (by decide) _ _ _ rfl hoa _ 1 1 _ rfl rfl hra (by simp [Value.oneCell']) (by simp only [maxLen]; omega) (by omega) ?_
        intro v4 w4 hap)
      case roundEnd =>
        refine ⟨⟨k + 1, by omega, by go_num, hap.own.cast rfl HTK.out.symm, fun g hg => ?_, hba.grown hap.grown hba.size (fun r hr => HNEW.out r hr)⟩, by simp [intOf]; omega⟩
        rcases hap.lies with h | h
        · exact HNEW.out g (h ▸ hg)
        · rw [h] at hg
          injection hg with hg
          rw [← hg]
          exact hba.size
    · obtain rfl : k = N := by omega
      have hkI : ¬ (k : Int) < (k : Int) := by omega
      have HT := Shut.mk (show R.take k = R by rw [HN.out, List.take_length])
      go_wp2_with fail
      go_ret
      have ho := HOU.out
      rw [HT.out] at ho
      exact ⟨_, rfl, ho.cast (by simpa using HN.out) (by simp), HBR.out, HNEW.out⟩
end
end Go.Proofs.Ytjmaimpfplojpaa
