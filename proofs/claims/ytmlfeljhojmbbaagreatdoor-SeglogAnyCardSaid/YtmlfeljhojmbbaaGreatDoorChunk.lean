/- slices.Chunk over bytes, eight at a time: what it hands back, as the contract of an iterator. -/
import Derived.Test.YtmlfeljhojmbbaaGreatDoorBack
namespace Go.Proofs.YtmlfeljhojmbbaaGreatDoor
open Go.RowKit Go.Maps Go.Shelf
set_option linter.unusedSimpArgs false
set_option linter.unusedVariables false
set_option maxRecDepth 100000
attribute [local go_sem] Oper.semAt_some

/-- what a round keeps for the iterator: what lay below n₀, and two boxes -/
structure Kc (n₀ Bs Bn : Nat) (W W' : World) : Prop where
  below : Below n₀ W W'
  box : W'.heap[Bs]? = W.heap[Bs]?
  box2 : W'.heap[Bn]? = W.heap[Bn]?
theorem Kc.refl (n₀ Bs Bn : Nat) (W : World) : Kc n₀ Bs Bn W W := ⟨Below.refl _ _, rfl, rfl⟩
theorem Kc.trans {n₀ Bs Bn : Nat} {A B C : World} (h : Kc n₀ Bs Bn A B) (k : Kc n₀ Bs Bn B C) : Kc n₀ Bs Bn A C := ⟨h.below.trans k.below, k.box.trans h.box, k.box2.trans h.box2⟩
theorem Kc.cell {n₀ Bs Bn : Nat} {A B : World} (h : Kc n₀ Bs Bn A B) (i : Nat) : B.cell? ⟨Bs, i, none⟩ = A.cell? ⟨Bs, i, none⟩ := by
  unfold World.cell?
  rw [h.box]
theorem Kc.cell2 {n₀ Bs Bn : Nat} {A B : World} (h : Kc n₀ Bs Bn A B) (i : Nat) : B.cell? ⟨Bn, i, none⟩ = A.cell? ⟨Bn, i, none⟩ := by
  unfold World.cell?
  rw [h.box2]
/-- a chunk's place -/
abbrev Ix8 (K : Nat) := { x : Nat // x < K }
def upTo {K : Nat} (l : List (Ix8 K)) : Prop := l.map (·.1) = List.range l.length
theorem upTo_snoc {K : Nat} {l : List (Ix8 K)} (h : upTo l) (hk : l.length < K) : upTo (l ++ [⟨l.length, hk⟩]) := by
  unfold upTo at *
  rw [List.map_append, h, List.length_append]
  simp [List.range_succ]
set_option maxHeartbeats 2000000 in
theorem chunk1_in (l Bs Bn n₀ : Nat) (a : Addr) (cap K : Nat) (hK : K ≤ 1000) (hcap : 8 * K ≤ cap) (J Jx : List (Ix8 K) → World → Prop) (n : Nat) (hn : 1 ≤ n) (hJD : ∀ pre W, J pre W → J pre W.drew)
    (hY : ∀ pre x W, J pre W → pre.length < K → YieldAt Fence.wide (n - 1) Tryz.prog l #[.slice (some (a.add (8 * x.1))) 8 8] W fun e W' =>
      (e = .returned (.bool true) ∧ J (pre ++ [x]) W' ∧ Kc n₀ Bs Bn W W') ∨ (e = .returned (.bool false) ∧ Jx (pre ++ [x]) W'))
    (W : World) (hBs : W.cell? ⟨Bs, 0, none⟩ = some (.slice (some a) (8 * K) cap)) (hBn : W.cell? ⟨Bn, 0, none⟩ = some (.int .i64 8)) (h0 : J [] W) :
    CallsIn Fence.wide n Tryz.prog 103 #[.func (.yield l) #[] #[], .pointer (some ⟨Bs, 0, none⟩), .pointer (some ⟨Bn, 0, none⟩)] W fun e W' => (∃ v, e = .returned v) ∧
      ((∃ ys : List (Ix8 K), (upTo ys ∧ ys.length = K) ∧ J ys W') ∨ (∃ pre, upTo pre ∧ Jx pre W')) := by
  refine callsIn_of_wp Tryz.func103 rfl trivial ?_ rfl
  simp only [Tryz.ntmps103, List.size_toArray, List.length_cons, List.length_nil, Nat.reduceAdd, Nat.reduceSub, Array.replicate_succ, Array.replicate_zero, List.push_toArray, List.append_toArray, List.nil_append, List.cons_append]
  have HY := Shut.mk hY
  have HJD := Shut.mk hJD
  clear hY hJD
  gi_wp2
  gi_loopw [4] (fun i wr => ∃ r : Nat, r ≤ K ∧ i = .int .i64 (8 * (r : Int)) ∧ (∃ pre, upTo pre ∧ pre.length = r ∧ J pre wr) ∧ Kc n₀ Bs Bn W wr)
    (fun i _ => (8 * (K : Int) - intOf i).toNat)
  case atStart => exact ⟨0, Nat.zero_le _, rfl, ⟨[], rfl, rfl, h0⟩, Kc.refl _ _ _ _⟩
  case round =>
    obtain ⟨r, hr, rfl, ⟨pre, hup, hpl, hJs⟩, hnx⟩ := hrel
    have hBs' := (hnx.cell 0).trans hBs
    have hBn' := (hnx.cell2 0).trans hBn
    by_cases hlt : r < K
    · obtain ⟨fn, tmps, assign, body, hy, hR⟩ := HY.out pre ⟨r, hlt⟩ wr.drew (HJD.out _ _ hJs) (by omega)
      dsimp only at hy
      have HUP : Shut (upTo (pre ++ [(⟨r, hlt⟩ : Ix8 K)])) := ⟨by
        subst hpl
        exact upTo_snoc hup hlt⟩
      have hrI : (r : Int) < (K : Int) := by omega
      have hr8 : 8 * r < 8 * K := by omega
      have hr9 : 8 * r + 8 ≤ 8 * K := by omega
      gi_wp2
      gi_region
      gi_wp2
      refine hR.mono ?_
      rintro e W3 (⟨rfl, hJ3, hk3⟩ | ⟨rfl, hJx3⟩)
      · have hBn3 : W3.cell? ⟨Bn, 0, none⟩ = some (.int .i64 8) := (hk3.cell2 0).trans hBn'
        gi_wp2
        go_roundw
        case rel => exact ⟨r + 1, by omega, by go_num, ⟨_, HUP.out, by simp [hpl], hJ3⟩, hnx.trans (Kc.trans ⟨(Below.refl _ wr).drew, rfl, rfl⟩ hk3)⟩
        case measure => first | (simp [intOf]; done) | (simp [intOf]; omega)
      · gi_wp2
        refine bodyPost_ret (results_none rfl _ _ _) rfl ?_
        exact ⟨⟨_, rfl⟩, .inr ⟨_, HUP.out, hJx3⟩⟩
    · obtain rfl : r = K := by omega
      gi_wp2
      go_end0
      exact ⟨⟨_, rfl⟩, .inl ⟨pre, ⟨hup, hpl⟩, hJs⟩⟩
theorem chunk_in (A : Option Addr) (len cap : Nat) (n : Nat) (w : World) :
    CallsIn Fence.wide n Tryz.prog 84 #[.slice A len cap, .int .i64 8] w fun e w' => e = .returned (.func (.func 103) #[] #[.pointer (some ⟨w.heap.size, 0, none⟩), .pointer (some ⟨w.heap.size + 1, 0, none⟩)]) ∧ w' = (w.alloc (.cells #[.slice A len cap] 27)).alloc (.cells #[.int .i64 8] 3) := by
  refine callsIn_of_wp Tryz.func84 rfl trivial ?_ rfl
  simp only [Tryz.ntmps84, List.size_toArray, List.length_cons, List.length_nil, Nat.reduceAdd, Nat.reduceSub, Array.replicate_succ, Array.replicate_zero, List.push_toArray, List.append_toArray, List.nil_append, List.cons_append]
  gi_wp2
  go_ret
  exact ⟨rfl, rfl⟩
theorem chunk_stops (n : Nat) (hn : 1 ≤ n) (Bs Bn n₀ : Nat) (a : Addr) (cap K : Nat) (hK : K ≤ 1000) (hcap : 8 * K ≤ cap) (w : World) (hBs : Bs < w.heap.size) (hBn : Bn < w.heap.size)
    (hc : w.cell? ⟨Bs, 0, none⟩ = some (.slice (some a) (8 * K) cap)) (hc2 : w.cell? ⟨Bn, 0, none⟩ = some (.int .i64 8)) :
    SeqStopsK Fence.wide n Tryz.prog 103 #[.pointer (some ⟨Bs, 0, none⟩), .pointer (some ⟨Bn, 0, none⟩)] (fun x : Ix8 K => #[.slice (some (a.add (8 * x.1))) 8 8]) (Kc n₀ Bs Bn) (fun ys => upTo ys ∧ ys.length = K) upTo K w := fun l J Jx W hW hab _ hY h0 => by
  refine chunk1_in l Bs Bn n₀ a cap K hK hcap J Jx n hn (fun pre W h => hab pre W W.drew none h ⟨rfl, rfl, rfl, Nat.le_refl _, fun _ _ _ => rfl⟩ (fun r e => by cases e)) hY W ((hW.cell (p := ⟨Bs, 0, none⟩) hBs).trans hc) ((hW.cell (p := ⟨Bn, 0, none⟩) hBn).trans hc2) h0
end Go.Proofs.YtmlfeljhojmbbaaGreatDoor
