/- Walks: numbers as bytes: the program's put, the reference's Big. Walk: the reference's Big: a number in so many bytes. -/
import Derived.Test.YtmlfeljhojmbbaaGreatDoorRef5c
import Derived.Test.YtmlfeljhojmbbaaGreatDoorClone
import Derived.Test.YtmlfeljhojmbbaaGreatDoorMake
namespace Go.Proofs.YtmlfeljhojmbbaaGreatDoor
open Go.RowKit
set_option linter.unusedSimpArgs false
set_option linter.unusedVariables false
set_option maxRecDepth 100000

/-- a number in so many bytes -/
def putl (n width : Nat) : List UInt8 := (List.range width).map fun i => Psha.be (8 * (width - 1 - i)) n
theorem putl_length (n width : Nat) : (putl n width).length = width := by simp [putl]
theorem putl_take (n width j : Nat) (h : j < width) : (putl n width).take (j + 1) = (putl n width).take j ++ [Psha.be (8 * (width - 1 - j)) n] := by
  rw [List.take_succ_eq_append_getElem (by rw [putl_length]; exact h)]
  simp [putl]

set_option maxHeartbeats 1000000 in
theorem put_calls (v : Value) (l : List UInt8) (n width B : Nat) (w : World) (ho : Own w 5 1 v l.length (bys l)) (hB : B ≤ w.heap.size) (hv : ∀ g, v.ownBlock = some g → B ≤ g)
    (hn : n < 9223372036854775808) (hw : width ≤ 8) (hl : l.length ≤ 100000000) :
    Calls Tryz.prog 82 #[v, .int .i64 n, .int .i64 width] w fun e w' => ∃ v', e = .returned v' ∧ Own w' 5 1 v' (l.length + width) (bys (l ++ putl n width)) ∧ Below B w w' ∧ (∀ g, v'.ownBlock = some g → B ≤ g) := by
  obtain ⟨i0, hi, hz0, hz1, hz2⟩ := info_parts info_u8
  have HV := Shut.mk hv
  clear hv
  obtain ⟨N, hN⟩ : ∃ N, N = l.length := ⟨_, rfl⟩
  rw [← hN] at ho hl ⊢
  have HN := Shut.mk hN
  clear hN
  obtain ⟨A0, c0, rfl, _⟩ := ho.form
  have HPL := Shut.mk (putl_length n width)
  go_enter Tryz.func82, Tryz.ntmps82
  go_wp2_with fail
  go_loopw [0, 7] (fun v i wr => ∃ m : Nat, m ≤ width ∧ i = .int .i64 ((8 : Int) * ((m : Int) - 1)) ∧ Own wr 5 1 v (N + (width - m)) (bys (l ++ (putl n width).take (width - m))) ∧ Below B w wr ∧ Shut (∀ g, v.ownBlock = some g → B ≤ g)) (fun _ i _ => (intOf i + 8).toNat)
  case atStart => exact ⟨width, Nat.le_refl _, rfl, ho.cast (by omega) (by simp), Below.refl _ _, HV⟩
  case round =>
    clear ho
    obtain ⟨m, hm, rfl, ho, hbr, hnw⟩ := hrel
    obtain ⟨A1, c1, rfl, _⟩ := ho.form
    have hsz := hbr.size
    by_cases hm0 : m = 0
    · subst hm0
      go_wp2_with fail
      go_ret
      refine ⟨_, rfl, ho.cast (by omega) ?_, hbr, hnw.out⟩
      rw [List.take_of_length_le (by rw [HPL.out]; omega)]
    · obtain ⟨p, rfl⟩ : ∃ p, m = p + 1 := ⟨m - 1, by omega⟩
      have e1 : (8 : Int) * (((p + 1 : Nat) : Int) - 1) = 8 * (p : Int) := by omega
      rw [e1]
      have HBE := Shut.mk (Psha.be_walk n (8 * p))
      go_wp2_with (at_builtin; refine wpList_append _ rfl _ _ _ rfl 5 i0 _ 1 1 Tryz.underlying27 hi hz0 hz1 hz2 rfl (by decide) _ _ _ rfl (ho.alloc _) _ 1 1 _ rfl (by rfl) (rd_new wr _ 5) (by simp [Value.oneCell']) (by simp only [maxLen]; omega) (by omega) ?_; intro v6 w6 hap6)
      obtain ⟨g6, c6, rfl, _, _⟩ := hap6.own.head (by omega)
      go_roundw
      case rel =>
        have hbr' := hbr.alloc (Nat.le_trans hB hsz) (.cells #[.int .u8 ((n : Int) / (2 : Int) ^ (8 * p) % (256 : Int))] 5)
        refine ⟨p, by omega, by go_num, hap6.own.cast (by omega) ?_, hbr'.grown hap6.grown (Nat.le_trans hB (by simp; omega)) hnw.out, ⟨new_append (Nat.le_trans hB (by simp; omega)) hnw.out hap6.lies⟩⟩
        rw [show width - p = (width - (p + 1)) + 1 from by omega, putl_take n width (width - (p + 1)) (by omega), ← List.append_assoc, bys_append _ [_], show 8 * (width - 1 - (width - (p + 1))) = 8 * p from by omega, HBE.out]
        rfl
      case measure => first | (simp [intOf]; done) | (simp [intOf]; omega)
end Go.Proofs.YtmlfeljhojmbbaaGreatDoor

namespace Go.Proofs.YtmlfeljhojmbbaaGreatDoor
open Go.RowKit
set_option linter.unusedSimpArgs false
set_option linter.unusedVariables false
set_option maxRecDepth 100000

theorem putl_drop (n width p : Nat) (h : p < width) : (putl n width).drop p = Psha.be (8 * (width - 1 - p)) n :: (putl n width).drop (p + 1) := by
  rw [List.drop_eq_getElem_cons (by rw [putl_length]; exact h)]
  simp [putl]
set_option maxHeartbeats 1000000 in
theorem big_calls (n width : Nat) (w : World) (hw0 : 0 < width) (hw : width ≤ 8) (hn : n < 9223372036854775808) :
    Calls Tryz.prog 97 #[.int .i64 n, .int .i64 width] w (NewB w (putl n width)) := by
  obtain ⟨i0, hi, hz0, hz1, hz2⟩ := info_parts info_u8
  have HPL := Shut.mk (putl_length n width)
  go_enter Tryz.func97, Tryz.ntmps97
  go_wp2_with (
    refine wpList_make_cap w rfl (.tmp 7) (.tmp 7) _ rfl 5 i0 (.int .u8 0) Tryz.underlying27 hi hz0 hz1 rfl .i64 .i64 width width (by rfl) (by rfl) (by omega) (by rw [hz2]; omega) (by omega) ?_
    obtain ⟨W1, hW1⟩ : ∃ W, W = w.alloc (.cells (madeCells #[.int .u8 0] width) 5) := ⟨_, rfl⟩
    have ho1 : Own W1 5 1 (.slice (some ⟨w.heap.size, 0, none⟩) width width) width (bys (List.replicate width 0)) := by
      rw [hW1]
      exact own_made w _ _ _ (by omega) (by simp [maxLen]; omega)
    have hb1 : Below w.heap.size w W1 := by
      rw [hW1]
      exact (Below.refl _ w).alloc (Nat.le_refl _) _
    rw [← hW1]
    clear hW1)
  go_loopw [0, 6] (fun x i wr => ∃ m : Nat, m ≤ width ∧ i = .int .i64 ((m : Int) - 1) ∧ x = .int .i64 ((n / 2 ^ (8 * (width - m)) : Nat) : Int) ∧ Own wr 5 1 (.slice (some ⟨w.heap.size, 0, none⟩) width width) width (bys (List.replicate m 0 ++ (putl n width).drop m)) ∧ Below w.heap.size w wr) (fun _ i _ => (intOf i + 1).toNat)
  case atStart => exact ⟨width, Nat.le_refl _, rfl, by simp, ho1.cast rfl (by rw [List.drop_of_length_le (by rw [HPL.out]; exact Nat.le_refl _), List.append_nil]), hb1⟩
  case round =>
    clear ho1 hb1
    obtain ⟨m, hm, rfl, rfl, ho, hbr⟩ := hrel
    by_cases hm0 : m = 0
    · subst hm0
      go_wp2_with fail
      go_ret
      exact ⟨_, rfl, ho.cast HPL.out.symm (by simp), hbr, fun g hg => by cases hg; exact Nat.le_refl _⟩
    · obtain ⟨p, rfl⟩ : ∃ p, m = p + 1 := ⟨m - 1, by omega⟩
      have e1 : ((p + 1 : Nat) : Int) - 1 = (p : Int) := by omega
      rw [e1]
      have hc := ho.cell p (u := .int .u8 0) (by simp [bys, List.replicate_succ'])
      have hf := ho.free p
      have HD := Shut.mk (show n / 2 ^ (8 * (width - (p + 1))) / 256 = n / 2 ^ (8 * (width - p)) by
        rw [Nat.div_div_eq_div_mul, show 8 * (width - p) = 8 * (width - (p + 1)) + 8 from by omega, Nat.pow_add])
      have hle : n / 2 ^ (8 * (width - (p + 1))) ≤ n := Nat.div_le_self _ _
      have HX : Shut (((n / 2 ^ (8 * (width - (p + 1))) : Nat) : Int) % 256 = ((Psha.be (8 * (width - 1 - p)) n).toNat : Int)) := ⟨by
        rw [show width - 1 - p = width - (p + 1) from by omega, Psha.be, UInt8.toNat_ofNat']
        omega⟩
      generalize n / 2 ^ (8 * (width - (p + 1))) = K at HD hle HX
      go_wp2_with fail
      rw [HX.out]
      refine ⟨⟨p, by omega, rfl, ?_, ?_, hbr.setCell (p := ⟨w.heap.size, p, none⟩) (Nat.le_refl _) _⟩, by first | (simp [intOf]; done) | (simp [intOf]; omega)⟩
      · rw [← HD.out]
        congr 1
      · refine (ho.set p _).cast rfl ?_
        rw [← bys_set, putl_drop n width p (by omega), List.replicate_succ']
        congr 1
        rw [List.append_assoc, List.set_append_right _ _ (by simp)]
        simp
end Go.Proofs.YtmlfeljhojmbbaaGreatDoor
