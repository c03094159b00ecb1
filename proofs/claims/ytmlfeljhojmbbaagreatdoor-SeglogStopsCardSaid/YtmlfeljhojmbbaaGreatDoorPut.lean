/- Walks: numbers as bytes: the program's put, the reference's Big. -/
import Derived.Test.YtmlfeljhojmbbaaGreatDoorRef5c
import Derived.Test.YtmlfeljhojmbbaaGreatDoorClone
namespace Go.Proofs.YtmlfeljhojmbbaaGreatDoor
open Go.RowKit
set_option linter.unusedSimpArgs false
set_option linter.unusedVariables false
set_option maxRecDepth 100000

/-- a number in so many bytes -/
def putl (n width : Nat) : List UInt8 := (List.range width).map fun i => Psha.be (8 * (width - 1 - i)) n
theorem putl_length (n width : Nat) : (putl n width).length = width := by simp [putl]
theorem putl_take (n width j : Nat) (h : j < width) : (putl n width).take (j + 1) = (putl n width).take j ++ [Psha.be (8 * (width - 1 - j)) n] := by
  rw [List.take_succ_eq_append_getElem (by rw [putl_length]; exact h)]
  simp [putl]

set_option maxHeartbeats 1000000 in
theorem put_calls (v : Value) (l : List UInt8) (n width B : Nat) (w : World) (ho : Own w 5 1 v l.length (bys l)) (hB : B ≤ w.heap.size) (hv : ∀ g, v.ownBlock = some g → B ≤ g)
    (hn : n < 9223372036854775808) (hw : width ≤ 8) (hl : l.length ≤ 100000000) :
    Calls Tryz.prog 82 #[v, .int .i64 n, .int .i64 width] w fun e w' => ∃ v', e = .returned v' ∧ Own w' 5 1 v' (l.length + width) (bys (l ++ putl n width)) ∧ Below B w w' ∧ (∀ g, v'.ownBlock = some g → B ≤ g) := by
  obtain ⟨i0, hi, hz0, hz1, hz2⟩ := info_parts info_u8
  have HV := Shut.mk hv
  clear hv
  obtain ⟨N, hN⟩ : ∃ N, N = l.length := ⟨_, rfl⟩
  rw [← hN] at ho hl ⊢
  have HN := Shut.mk hN
  clear hN
  obtain ⟨A0, c0, rfl, _⟩ := ho.form
  have HPL := Shut.mk (putl_length n width)
  go_enter Tryz.func82, Tryz.ntmps82
  go_wp2_with fail
  go_loopw [0, 7] (fun v i wr => ∃ m : Nat, m ≤ width ∧ i = .int .i64 ((8 : Int) * ((m : Int) - 1)) ∧ Own wr 5 1 v (N + (width - m)) (bys (l ++ (putl n width).take (width - m))) ∧ Below B w wr ∧ Shut (∀ g, v.ownBlock = some g → B ≤ g)) (fun _ i _ => (intOf i + 8).toNat)
  case atStart => exact ⟨width, Nat.le_refl _, rfl, ho.cast (by omega) (by simp), Below.refl _ _, HV⟩
  case round =>
    clear ho
    obtain ⟨m, hm, rfl, ho, hbr, hnw⟩ := hrel
    obtain ⟨A1, c1, rfl, _⟩ := ho.form
    have hsz := hbr.size
    by_cases hm0 : m = 0
    · subst hm0
      go_wp2_with fail
      go_ret
      refine ⟨_, rfl, ho.cast (by omega) ?_, hbr, hnw.out⟩
      rw [List.take_of_length_le (by rw [HPL.out]; omega)]
    · obtain ⟨p, rfl⟩ : ∃ p, m = p + 1 := ⟨m - 1, by omega⟩
      have e1 : (8 : Int) * (((p + 1 : Nat) : Int) - 1) = 8 * (p : Int) := by omega
      rw [e1]
      have HBE := Shut.mk (Psha.be_walk n (8 * p))
      go_wp2_with (at_builtin; refine wpList_append _ rfl _ _ _ rfl 5 i0 _ 1 1 Tryz.underlying27 hi hz0 hz1 hz2 rfl (by decide) _ _ _ rfl (ho.alloc _) _ 1 1 _ rfl (by rfl) (rd_new wr _ 5) (by simp [Value.oneCell']) (by simp only [maxLen]; omega) (by omega) ?_; intro v6 w6 hap6)
      obtain ⟨g6, c6, rfl, _, _⟩ := hap6.own.head (by omega)
      go_roundw
      case rel =>
        have hbr' := hbr.alloc (Nat.le_trans hB hsz) (.cells #[.int .u8 ((n : Int) / (2 : Int) ^ (8 * p) % (256 : Int))] 5)
        refine ⟨p, by omega, by go_num, hap6.own.cast (by omega) ?_, hbr'.grown hap6.grown (Nat.le_trans hB (by simp; omega)) hnw.out, ⟨new_append (Nat.le_trans hB (by simp; omega)) hnw.out hap6.lies⟩⟩
        rw [show width - p = (width - (p + 1)) + 1 from by omega, putl_take n width (width - (p + 1)) (by omega), ← List.append_assoc, bys_append _ [_], show 8 * (width - 1 - (width - (p + 1))) = 8 * p from by omega, HBE.out]
        rfl
      case measure => first | (simp [intOf]; done) | (simp [intOf]; omega)
end Go.Proofs.YtmlfeljhojmbbaaGreatDoor
