/- Walks: the net's Write, Addr, Drop. -/
import Derived.Test.YtdnbdmffaoimgaaNet
namespace Go.Proofs.Ytdnbdmffaoimgaa
open Go.RowKit Go.Maps
set_option linter.unusedSimpArgs false
set_option linter.unusedVariables false
set_option maxRecDepth 100000

theorem conn_own_ne {w : World} {gc : Nat} {cs : Array Value} {v : Value} {n : Nat} {xs : List Value} (hb : Blk w gc 57 cs) (ho : Own w 5 1 v n xs) : ∀ g, v.ownBlock = some g → g ≠ gc := by
  intro g hg e
  rcases ho.2 with ⟨rfl, _⟩ | ⟨g', cap, cur, rfl, hh, _⟩
  · simp [Value.ownBlock] at hg
  · simp [Value.ownBlock] at hg
    subst hg
    unfold Blk at hb
    rw [e, hb] at hh
    simp at hh
theorem net_own_ne {w : World} {gn gm last n : Nat} {f : Lit → Option Nat} {v : Value} {m : Nat} {xs : List Value} (hN : NetAt w gn gm last n f) (ho : Own w 5 1 v m xs) : ∀ g, v.ownBlock = some g → g ≠ gn ∧ g ≠ gm := by
  intro g hg
  rcases ho.2 with ⟨rfl, _⟩ | ⟨g', cap, cur, rfl, hh, _⟩
  · simp [Value.ownBlock] at hg
  · simp [Value.ownBlock] at hg
    subst hg
    refine ⟨fun e => ?_, fun e => ?_⟩
    · have hb := hN.blk
      unfold Blk at hb
      rw [e, hb] at hh
      simp at hh
    · obtain ⟨D, ⟨es, clock, h2, _⟩, _⟩ := hN.map
      rw [e, h2] at hh
      cases hh
theorem net_conn_ne {w : World} {gn gm last n gc : Nat} {f : Lit → Option Nat} {cs : Array Value} (hN : NetAt w gn gm last n f) (hc : Blk w gc 57 cs) : gc ≠ gn ∧ gc ≠ gm := by
  refine ⟨fun e => ?_, fun e => ?_⟩
  · have hb := hN.blk
    unfold Blk at hb hc
    rw [e, hb] at hc
    simp at hc
  · obtain ⟨D, ⟨es, clock, h2, _⟩, _⟩ := hN.map
    unfold Blk at hc
    rw [e, h2] at hc
    cases hc
theorem NetAt.kept {w w' : World} {gn gm last n : Nat} {f : Lit → Option Nat} {L : List Nat} (h : NetAt w gn gm last n f) (hk : Kb w w' L) (h1 : gn ∉ L) (h2 : gm ∉ L) : NetAt w' gn gm last n f := by
  refine ⟨hk.blk h.blk h1, ?_⟩
  obtain ⟨D, ⟨es, clock, hh, r⟩, hf⟩ := h.map
  exact ⟨D, ⟨es, clock, (hk.block gm h.map.lt h2).trans hh, r⟩, hf⟩

set_option maxHeartbeats 1000000 in
theorem write_calls (gn gm last n gc : Nat) (f : Lit → Option Nat) (a ad : Int) (A : Option Addr) (m c : Nat) (b l : List UInt8) (v : Value) (w : World) (hN : NetAt w gn gm last n f) (h1 : -9223372036854775808 ≤ a) (h2 : a ≤ 9223372036854775807)
    (hf : f (kint a) = some gc) (hc : Blk w gc 57 #[.int .i64 ad, v]) (ho : Own w 5 1 v l.length (bys l)) (hr : RdB w A b) (hm : b.length = m) (hl : l.length + m ≤ reach) :
    Calls Try.prog 9 #[.pointer (some ⟨gn, 0, none⟩), .int .i64 a, .slice A m c] w fun e w' => ∃ v', e = .returned (.int .i64 0) ∧ NetAt w' gn gm last n f ∧ Blk w' gc 57 #[.int .i64 ad, v'] ∧
      Own w' 5 1 v' (l ++ b).length (bys (l ++ b)) ∧ Kb w w' (gc :: v.ownBlock.toList) ∧ (∀ g, v'.ownBlock = some g → v.ownBlock = some g ∨ w.heap.size ≤ g) := by
  obtain ⟨i0, hi, hz0, hz1, hz2⟩ := info_parts info_u8
  unfold reach at hl
  have HL := Shut.mk (bys_length b)
  have HM := Shut.mk hm
  have HR := Shut.mk (rd_of_rdB hr)
  clear hr hm
  obtain ⟨N, hN'⟩ : ∃ N, N = l.length := ⟨_, rfl⟩
  rw [← hN'] at ho hl
  obtain ⟨A1, c1, hv1, _⟩ := ho.form
  subst hv1
  have HLN := Shut.mk hN'
  clear hN'
  have q0 : w.cell? ⟨gc, 0, none⟩ = some (.int .i64 ad) := hc.cell 0
  have q1 : w.cell? ⟨gc, 1, none⟩ = some (.slice A1 N c1) := hc.cell 1
  have hne := conn_own_ne hc ho
  go_enter Try.func9, Try.ntmps9
  go_wp2_with fail
  refine (of_calls gn gm last n f a w hN h1 h2).mono ?_
  rintro e w' ⟨rfl, rfl⟩
  rw [hf]
  go_wp2_with (
    at_builtin
    (refine wpList_append _ rfl _ _ _ rfl 5 i0 _ 1 1 Try.underlying29 hi hz0 hz1 hz2 rfl (by decide) _ _ _ rfl ho _ m c _ rfl (by rw [HL.out, HM.out, Nat.mul_one]) HR.out (bys_one b) (by simp only [maxLen]; omega) (by omega) ?_)
    intro v2 w2 hap
    obtain ⟨A2, c2, hv2, _⟩ := hap.own.form
    subst hv2
    (have hb2 : Blk w2 gc 57 #[.int .i64 ad, .slice A1 N c1] := (hap.grown.block gc hc.lt (fun e => hne gc e.symm rfl)).trans hc)
    (have r1 : w2.cell? ⟨gc, 1, none⟩ = some (.slice A1 N c1) := hb2.cell 1)
    (have f1 := hb2.free 1))
  go_ret
  have hbs := hb2.set_ 1 (.slice A2 (N + m) c2)
  have hne2 : ∀ g, (Value.slice A2 (N + m) c2).ownBlock = some g → g ≠ gc := conn_own_ne hb2 hap.own
  have hnn := net_own_ne hN ho
  have hgr : w.grownBy w2 (Value.slice A1 N c1).ownBlock := hap.grown
  have hli : (Value.slice A2 (N + m) c2).ownBlock = (Value.slice A1 N c1).ownBlock ∨ (Value.slice A2 (N + m) c2).ownBlock = some w.heap.size := hap.lies
  have hkA : Kb w w2 (gc :: (Value.slice A1 N c1).ownBlock.toList) := Kb.of_grown hgr (fun r hr => by rw [hr]; simp)
  have hkB := hkA.setCell (p := ⟨gc, 1, none⟩) (by simp) (.slice A2 (N + m) c2)
  have hcn := net_conn_ne hN hc
  refine ⟨_, rfl, hN.kept hkB ?_ ?_, hbs, (hap.own.keep fun g hg => Below.heap_setCell w2 _ _ g (hne2 g hg)).cast (by rw [List.length_append, HM.out, HLN.out]) (by rw [bys_append]), hkB, fun g hg => ?_⟩
  · simp only [List.mem_cons, Option.mem_toList, not_or]
    exact ⟨fun e => hcn.1 e.symm, fun e => (hnn gn e).1 rfl⟩
  · simp only [List.mem_cons, Option.mem_toList, not_or]
    exact ⟨fun e => hcn.2 e.symm, fun e => (hnn gm e).2 rfl⟩
  · rcases hli with h | h
    · exact .inl (h ▸ hg)
    · rw [h] at hg
      cases hg
      exact .inr (Nat.le_refl _)
end Go.Proofs.Ytdnbdmffaoimgaa
