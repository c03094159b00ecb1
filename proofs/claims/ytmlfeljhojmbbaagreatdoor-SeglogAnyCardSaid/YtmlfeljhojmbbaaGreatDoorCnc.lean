/- Walk: slices.Concat of three slices of bytes. -/
import Derived.Test.YtmlfeljhojmbbaaGreatDoorEqM
import Derived.Test.YtmlfeljhojmbbaaGreatDoorDig
namespace Go.Proofs.YtmlfeljhojmbbaaGreatDoor
open Go.RowKit
set_option linter.unusedSimpArgs false
set_option linter.unusedVariables false
set_option maxRecDepth 100000

set_option maxHeartbeats 1000000 in
theorem concat_calls (A0 A1 A2 : Option Addr) (n0 c0 n1 c1 n2 c2 : Nat) (l0 l1 l2 : List UInt8) (g : Nat) (w : World) (hg : Blk w g 27 #[.slice A0 n0 c0, .slice A1 n1 c1, .slice A2 n2 c2])
    (h0 : RdB w A0 l0) (e0 : l0.length = n0) (h1 : RdB w A1 l1) (e1 : l1.length = n1) (h2 : RdB w A2 l2) (e2 : l2.length = n2) (hp : 0 < n0 + n1 + n2) (hm : n0 + n1 + n2 ≤ 100000000) :
    Calls Tryz.prog 87 #[.slice (some ⟨g, 0, none⟩) 3 3] w (NewB w (l0 ++ l1 ++ l2)) := by
  obtain ⟨i0, hi, hz0, hz1, hz2⟩ := info_parts info_u8
  have q0 : w.cell? ⟨g, 0, none⟩ = some (.slice A0 n0 c0) := hg.cell 0
  have q1 : w.cell? ⟨g, 1, none⟩ = some (.slice A1 n1 c1) := hg.cell 1
  have q2 : w.cell? ⟨g, 2, none⟩ = some (.slice A2 n2 c2) := hg.cell 2
  have H0 := Shut.mk h0
  have H1 := Shut.mk h1
  have H2 := Shut.mk h2
  have E0 := Shut.mk e0
  have E1 := Shut.mk e1
  have E2 := Shut.mk e2
  have HG := Shut.mk hg
  clear h0 h1 h2 e0 e1 e2 hg
  go_enter Tryz.func87, Tryz.ntmps87
  go_wp2_with fail
  go_loopw [3, 11] (fun s i wr => w = wr ∧ ((i = .int .i64 0 ∧ s = .int .i64 0) ∨ (i = .int .i64 1 ∧ s = .int .i64 (n0 : Int)) ∨ (i = .int .i64 2 ∧ s = .int .i64 ((n0 : Int) + (n1 : Int))) ∨ (i = .int .i64 3 ∧ s = .int .i64 ((n0 : Int) + (n1 : Int) + (n2 : Int))))) (fun _ i _ => 3 - (intOf i).toNat)
  case atStart => exact ⟨rfl, .inl ⟨rfl, rfl⟩⟩
  case round =>
    obtain ⟨rfl, h | h | h | h⟩ := hrel
    · obtain ⟨rfl, rfl⟩ := h
      go_wp2_with fail
      exact ⟨⟨trivial, by simp⟩, by simp [intOf]⟩
    · obtain ⟨rfl, rfl⟩ := h
      go_wp2_with fail
      exact ⟨⟨trivial, by simp⟩, by simp [intOf]⟩
    · obtain ⟨rfl, rfl⟩ := h
      go_wp2_with fail
      exact ⟨⟨trivial, by simp⟩, by simp [intOf]⟩
    · obtain ⟨rfl, rfl⟩ := h
      go_wp2_with fail
      rw [show (n0 : Int) + (n1 : Int) + (n2 : Int) = ((n0 + n1 + n2 : Nat) : Int) from by omega]
      refine (grow_calls (n0 + n1 + n2) w hp hm).mono ?_
      rintro e w1 ⟨v1, rfl, ho1, hb1, hn1⟩
      clear q0 q1 q2
      go_wp2_with fail
      have hnw1 := Shut.mk hn1
      go_loopw [6, 27] (fun v i wr => ((i = .int .i64 0 ∧ Own wr 5 1 v 0 []) ∨ (i = .int .i64 1 ∧ Own wr 5 1 v (0 + n0) ([] ++ bys l0)) ∨ (i = .int .i64 2 ∧ Own wr 5 1 v (0 + n0 + n1) ([] ++ bys l0 ++ bys l1)) ∨ (i = .int .i64 3 ∧ Own wr 5 1 v (0 + n0 + n1 + n2) ([] ++ bys l0 ++ bys l1 ++ bys l2))) ∧ Below w.heap.size w wr ∧ Shut (∀ g, v.ownBlock = some g → w.heap.size ≤ g)) (fun _ i _ => 3 - (intOf i).toNat)
      case atStart => exact ⟨.inl ⟨rfl, ho1⟩, hb1, hnw1⟩
      case round =>
        clear ho1 hb1 hnw1 hn1
        obtain ⟨h, hbr, hnw⟩ := hrel
        have hgw := HG.out.below hbr HG.out.lt
        have q0 : wr.cell? ⟨g, 0, none⟩ = some (.slice A0 n0 c0) := hgw.cell 0
        have q1 : wr.cell? ⟨g, 1, none⟩ = some (.slice A1 n1 c1) := hgw.cell 1
        have q2 : wr.cell? ⟨g, 2, none⟩ = some (.slice A2 n2 c2) := hgw.cell 2
        clear hgw
        rcases h with h | h | h | h
        · obtain ⟨rfl, ho⟩ := h
          go_wp2_with (at_builtin; refine wpList_append _ rfl _ _ _ rfl 5 i0 _ 1 1 Tryz.underlying27 hi hz0 hz1 hz2 rfl (by decide) _ _ _ rfl ho _ n0 c0 _ rfl (by rw [bys_length, E0.out, Nat.mul_one]) (rd_of_rdB (H0.out.keep hbr)) (bys_one _) (by simp only [maxLen]; omega) (by omega) ?_; intro v6 w6 hap6)
          obtain ⟨A6, c6, rfl, _⟩ := hap6.own.form
          have hb6 := hbr.grown hap6.grown hbr.size hnw.out
          have hn6 := new_append hbr.size hnw.out hap6.lies
          have ho6 := hap6.own
          go_roundw
          case rel => exact ⟨.inr (.inl ⟨rfl, ho6⟩), hb6, ⟨hn6⟩⟩
          case measure => simp [intOf]
        · obtain ⟨rfl, ho⟩ := h
          go_wp2_with (at_builtin; refine wpList_append _ rfl _ _ _ rfl 5 i0 _ 1 1 Tryz.underlying27 hi hz0 hz1 hz2 rfl (by decide) _ _ _ rfl ho _ n1 c1 _ rfl (by rw [bys_length, E1.out, Nat.mul_one]) (rd_of_rdB (H1.out.keep hbr)) (bys_one _) (by simp only [maxLen]; omega) (by omega) ?_; intro v6 w6 hap6)
          obtain ⟨A6, c6, rfl, _⟩ := hap6.own.form
          have hb6 := hbr.grown hap6.grown hbr.size hnw.out
          have hn6 := new_append hbr.size hnw.out hap6.lies
          have ho6 := hap6.own
          go_roundw
          case rel => exact ⟨.inr (.inr (.inl ⟨rfl, ho6⟩)), hb6, ⟨hn6⟩⟩
          case measure => simp [intOf]
        · obtain ⟨rfl, ho⟩ := h
          go_wp2_with (at_builtin; refine wpList_append _ rfl _ _ _ rfl 5 i0 _ 1 1 Tryz.underlying27 hi hz0 hz1 hz2 rfl (by decide) _ _ _ rfl ho _ n2 c2 _ rfl (by rw [bys_length, E2.out, Nat.mul_one]) (rd_of_rdB (H2.out.keep hbr)) (bys_one _) (by simp only [maxLen]; omega) (by omega) ?_; intro v6 w6 hap6)
          obtain ⟨A6, c6, rfl, _⟩ := hap6.own.form
          have hb6 := hbr.grown hap6.grown hbr.size hnw.out
          have hn6 := new_append hbr.size hnw.out hap6.lies
          have ho6 := hap6.own
          go_roundw
          case rel => exact ⟨.inr (.inr (.inr ⟨rfl, ho6⟩)), hb6, ⟨hn6⟩⟩
          case measure => simp [intOf]
        · obtain ⟨rfl, ho⟩ := h
          obtain ⟨A6, c6, rfl, _⟩ := ho.form
          go_wp2_with fail
          go_ret
          exact ⟨_, rfl, ho.cast (by simp only [List.length_append, E0.out, E1.out, E2.out]; omega) (by simp [bys_append]), hbr, hnw.out⟩
end Go.Proofs.YtmlfeljhojmbbaaGreatDoor
