/- Walks: bytes.Clone makes a new slice of the same bytes (nil of nil). -/
import Derived.Test.YtmlfeljhojmbbaaGreatDoorOpen
namespace Go.Proofs.YtmlfeljhojmbbaaGreatDoor
open Go.RowKit
set_option linter.unusedSimpArgs false
set_option linter.unusedVariables false
set_option maxRecDepth 100000

theorem info_u8 : (Tryz.prog.info? 5).map (fun i => (i.zero, i.size, i.bytes)) = some (some (.int .u8 0), 1, 1) := by kernel_rfl

/-- what comes back is a new slice of the bytes l -/
def NewB (w : World) (l : List UInt8) (e : Ending) (w' : World) : Prop :=
  ∃ v, e = .returned v ∧ Own w' 5 1 v l.length (bys l) ∧ Below w.heap.size w w' ∧ (∀ g, v.ownBlock = some g → w.heap.size ≤ g)

set_option maxHeartbeats 400000 in
theorem clone_calls (A : Option Addr) (cap : Nat) (l : List UInt8) (w : World) (hr : RdB w A l) (hm : l.length ≤ reach) :
    Calls Tryz.prog 20 #[.slice A l.length cap] w (NewB w l) := by
  obtain ⟨i0, hi, hz0, hz1, hz2⟩ := info_parts info_u8
  rcases A with _ | ad
  · have hl : l = [] := by
      rcases l with _ | ⟨x, l⟩
      · rfl
      · obtain ⟨ad, h, _⟩ := hr 0 (by simp)
        cases h
    subst hl
    have hn := fun W : World => Lib.run_eql_slice_nil (P := Tryz.prog) W 27 5 none 0 cap 0 0 Tryz.underlying27
    go_enter Tryz.func20, Tryz.ntmps20
    go_wp2
    go_ret
    exact ⟨_, rfl, Own.nil _ _ _, Below.refl _ _, by simp [Value.ownBlock]⟩
  · have hn := fun W : World => Lib.run_eql_slice_nil (P := Tryz.prog) W 27 5 (some ad) l.length cap 0 0 Tryz.underlying27
    have hb := (Below.refl w.heap.size w).alloc (Nat.le_refl _) (.cells #[] 5)
    have hrd : Rd (w.alloc (.cells #[] 5)) (some ad) (bys l) := by
      intro hne
      obtain ⟨ad', e, hc⟩ := rd_of_rdB hr hne
      exact ⟨ad', e, fun j u hu => by rw [World.cell?_alloc_lt _ _ _ (World.block_lt_of_cell? w _ (hc j u hu))]; exact hc j u hu⟩
    have hlen := bys_length l
    have hreach : (0 + l.length) * 1 ≤ 140737488355328 := by unfold reach at hm; omega
    have hmax : 0 + l.length ≤ maxLen := by unfold reach at hm; unfold maxLen; omega
    have hown : Own (w.alloc (.cells #[] 5)) 5 1 (.slice (some ⟨w.heap.size, 0, none⟩) 0 0) 0 [] :=
      ⟨rfl, .inr ⟨w.heap.size, 0, #[], rfl, heap_alloc_new w _, Nat.le_refl _, Nat.zero_le _, Nat.le_refl _, rfl⟩⟩
    clear hr hm
    have HL := Shut.mk hlen
    clear hlen
    go_enter Tryz.func20, Tryz.ntmps20
    go_wp2_with (at_builtin; refine wpList_append _ rfl _ _ _ rfl 5 i0 _ 1 1 Tryz.underlying27 hi hz0 hz1 hz2 rfl (by decide) _ _ _ rfl hown _ _ _ _ rfl (by rw [HL.out, Nat.mul_one]) hrd (bys_one l) hmax hreach ?_; intro v1 w1 hap; obtain ⟨hown1, hg1, hat1, hz1', _⟩ := hap)
    go_ret
    refine ⟨v1, rfl, by simpa using hown1, hb.grown hg1 (by simp) (fun k hk => by cases hk; exact Nat.le_refl _), fun g hv => ?_⟩
    rcases hat1 with h | h <;> rw [h] at hv <;> cases hv
    · exact Nat.le_refl _
    · simp
/-- the same at a length that is spelt otherwise -/
theorem clone_n (A : Option Addr) (cap n : Nat) (l : List UInt8) (w : World) (hr : RdB w A l) (hm : l.length ≤ reach) (hn : l.length = n) :
    Calls Tryz.prog 20 #[.slice A n cap] w (NewB w l) := by
  subst hn
  exact clone_calls A cap l w hr hm
end Go.Proofs.YtmlfeljhojmbbaaGreatDoor
