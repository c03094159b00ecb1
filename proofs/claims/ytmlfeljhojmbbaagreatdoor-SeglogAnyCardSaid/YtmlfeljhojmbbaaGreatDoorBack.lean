/- slices.Backward over tails: what it hands back, as the contract of an iterator. -/
import Derived.Test.YtmlfeljhojmbbaaGreatDoorOps2
import Derived.RangeFuncNested
import Derived.RangeFuncBound
import Derived.RangeFuncCalls
import Derived.RangeFuncLeaves
import Derived.Shelf.Abstract
import Derived.OwnWalkIn
import Derived.TacticsInMore
import Derived.LoopNIn
import Derived.LoopIn
namespace Go.Proofs.YtmlfeljhojmbbaaGreatDoor
open Go.RowKit Go.Maps Go.Shelf
set_option linter.unusedSimpArgs false
set_option linter.unusedVariables false
set_option maxRecDepth 100000
attribute [local go_sem] Oper.semAt_some

/-- a tail -/
structure Tl where
  name : ByteArray
  keep : Int
  turn : Bool
  sz : name.size ≤ maxLen
instance : Inhabited Tl := ⟨⟨⟨#[]⟩, 0, false, by simp [ByteArray.size]⟩⟩
abbrev tailV (t : Tl) : Value := .agg #[.string t.name, .int .i64 t.keep, .bool t.turn]
/-- the address holds the tails -/
def RdT (W : World) (A : Option Addr) (tl : List Tl) : Prop :=
  ∀ k, k < tl.length → ∃ ad, A = some ad ∧ W.cell? (ad.add (k * 3)) = some (.string (tl.getD k default).name) ∧ W.cell? ⟨(ad.add (k * 3)).block, (ad.add (k * 3)).off + 1, none⟩ = some (.int .i64 (tl.getD k default).keep) ∧ W.cell? ⟨(ad.add (k * 3)).block, (ad.add (k * 3)).off + 2, none⟩ = some (.bool (tl.getD k default).turn)
/-- what a round keeps for the iterator: what lay below n₀, and the box Bs -/
structure Kt (n₀ Bs : Nat) (W W' : World) : Prop where
  below : Below n₀ W W'
  box : W'.heap[Bs]? = W.heap[Bs]?
theorem Kt.refl (n₀ Bs : Nat) (W : World) : Kt n₀ Bs W W := ⟨Below.refl _ _, rfl⟩
theorem Kt.trans {n₀ Bs : Nat} {A B C : World} (h : Kt n₀ Bs A B) (k : Kt n₀ Bs B C) : Kt n₀ Bs A C := ⟨h.below.trans k.below, k.box.trans h.box⟩
theorem Kt.cell {n₀ Bs : Nat} {A B : World} (h : Kt n₀ Bs A B) (i : Nat) : B.cell? ⟨Bs, i, none⟩ = A.cell? ⟨Bs, i, none⟩ := by
  unfold World.cell?
  rw [h.box]
/-- what has come when k rounds are over -/
def backs (tl : List Tl) (k : Nat) : List (Int × Tl) := (List.range k).map fun j => (((tl.length - 1 - j : Nat) : Int), tl.getD (tl.length - 1 - j) default)
theorem backs_succ (tl : List Tl) (k : Nat) : backs tl (k + 1) = backs tl k ++ [(((tl.length - 1 - k : Nat) : Int), tl.getD (tl.length - 1 - k) default)] := by simp [backs, List.range_succ]
theorem backs_length (tl : List Tl) (k : Nat) : (backs tl k).length = k := by simp [backs]
theorem RdT.below {n₀ : Nat} {A B : World} (h : Below n₀ A B) {a : Option Addr} {tl : List Tl} (hr : RdT A a tl) (hb : ∀ ad, a = some ad → tl ≠ [] → ad.block < n₀) : RdT B a tl := by
  intro k hk
  obtain ⟨ad, e, h1, h2, h3⟩ := hr k hk
  have hl := hb ad e (fun e => by rw [e] at hk; simp at hk)
  refine ⟨ad, e, ?_, ?_, ?_⟩
  · rw [h.cell (by rw [block_of_add]; exact hl)]; exact h1
  · rw [h.cell (by show (ad.add _).block < n₀; rw [block_of_add]; exact hl)]; exact h2
  · rw [h.cell (by show (ad.add _).block < n₀; rw [block_of_add]; exact hl)]; exact h3
set_option maxHeartbeats 2000000 in
theorem back1_in (l Bs n₀ : Nat) (A : Option Addr) (cap : Nat) (tl : List Tl) (hlen : tl.length < 9000000000000) (hb : ∀ ad, A = some ad → tl ≠ [] → ad.block < n₀) (J Jx : List (Int × Tl) → World → Prop) (n : Nat) (hn : 1 ≤ n)
    (hY : ∀ pre x W, J pre W → pre.length < tl.length → YieldAt Fence.wide (n - 1) Tryz.prog l #[.int .i64 x.1, tailV x.2] W fun e W' =>
      (e = .returned (.bool true) ∧ J (pre ++ [x]) W' ∧ Kt n₀ Bs W W') ∨ (e = .returned (.bool false) ∧ Jx (pre ++ [x]) W'))
    (W : World) (hBs : W.cell? ⟨Bs, 0, none⟩ = some (.slice A tl.length cap)) (hc : RdT W A tl) (h0 : J [] W) :
    CallsIn Fence.wide n Tryz.prog 94 #[.func (.yield l) #[] #[], .pointer (some ⟨Bs, 0, none⟩)] W fun e W' => (∃ v, e = .returned v) ∧
      ((∃ ys, ys = backs tl tl.length ∧ J ys W') ∨ (∃ pre, True ∧ Jx pre W')) := by
  refine callsIn_of_wp Tryz.func94 rfl trivial ?_ rfl
  simp only [Tryz.ntmps94, List.size_toArray, List.length_cons, List.length_nil, Nat.reduceAdd, Nat.reduceSub, Array.replicate_succ, Array.replicate_zero, List.push_toArray, List.append_toArray, List.nil_append, List.cons_append]
  obtain ⟨N, hN⟩ : ∃ N, N = tl.length := ⟨_, rfl⟩
  rw [← hN] at hBs hlen
  have HN := Shut.mk hN
  have HY := Shut.mk hY
  have HC := Shut.mk hc
  clear hN hY hc
  gi_wp2
  gi_loopw [3] (fun i wr => ∃ r : Nat, r ≤ N ∧ i = .int .i64 ((r : Int) - 1) ∧ J (backs tl (N - r)) wr ∧ Kt n₀ Bs W wr)
    (fun i _ => (intOf i + 1).toNat)
  case atStart => exact ⟨N, Nat.le_refl _, by simp, by rw [Nat.sub_self]; exact h0, Kt.refl _ _ _⟩
  case round =>
    obtain ⟨r, hr, rfl, hJs, hnx⟩ := hrel
    have hBs' := (hnx.cell 0).trans hBs
    rcases r with _ | m
    · have hneg : ¬ ((0 : Nat) : Int) - 1 ≥ 0 := by omega
      gi_wp2
      go_end0
      have h := hJs
      rw [Nat.sub_zero, HN.out] at h
      exact ⟨⟨_, rfl⟩, .inl h⟩
    · obtain ⟨ad, rfl, c0, c1, c2⟩ := (HC.out.below hnx.below hb) m (by rw [← HN.out]; omega)
      have hx1 : (((tl.length - 1 - (N - (m + 1)) : Nat) : Int), tl.getD (tl.length - 1 - (N - (m + 1))) default) = ((m : Int), tl.getD m default) := by
        have : tl.length - 1 - (N - (m + 1)) = m := by rw [← HN.out]; omega
        rw [this]
      obtain ⟨fn, tmps, assign, body, hy, hR⟩ := HY.out _ ((m : Int), tl.getD m default) wr hJs (by rw [backs_length, ← HN.out]; omega)
      dsimp only at hy
      have hrr : (((m + 1 : Nat) : Int)) - 1 = (m : Int) := by omega
      rw [hrr]
      have hJ' : ∀ W', J (backs tl (N - (m + 1)) ++ [((m : Int), tl.getD m default)]) W' → J (backs tl (N - m)) W' := by
        intro W' h
        have e : N - m = (N - (m + 1)) + 1 := by omega
        rw [e, backs_succ, hx1]
        exact h
      have HJ := Shut.mk hJ'
      clear hJ' hx1
      generalize tl.getD m default = t at c0 c1 c2 hy hR HJ
      have hm1 : (m : Int) < (N : Int) := by omega
      gi_wp2
      refine hR.mono ?_
      rintro e W3 (⟨rfl, hJ3, hk3⟩ | ⟨rfl, hJx3⟩)
      · gi_wp2
        go_roundw
        case rel => exact ⟨m, by omega, rfl, HJ.out _ hJ3, hnx.trans hk3⟩
        case measure => simp [intOf]
      · gi_wp2
        refine bodyPost_ret (results_none rfl _ _ _) rfl ?_
        exact ⟨⟨_, rfl⟩, .inr ⟨_, trivial, hJx3⟩⟩
/-- the last tail that came with a name -/
def lastT (pre : List (Int × Tl)) (s : List UInt8) : Option Tl := (pre.reverse.find? fun x => x.2.name.data.toList == s).map (·.2)
theorem lastT_snoc (pre : List (Int × Tl)) (x : Int × Tl) (s : List UInt8) : lastT (pre ++ [x]) s = if s = x.2.name.data.toList then some x.2 else lastT pre s := by
  unfold lastT
  rw [List.reverse_append, List.reverse_singleton, List.singleton_append, List.find?_cons]
  by_cases h : s = x.2.name.data.toList
  · subst h
    simp
  · have h' : (x.2.name.data.toList == s) = false := by simpa using fun e => h e.symm
    rw [h', if_neg h]
/-- the tail of a name -/
def tailOf (tl : List Tl) (s : List UInt8) : Option Tl := tl.find? fun x => x.name.data.toList == s
theorem backs_rev (tl : List Tl) : ((backs tl tl.length).reverse.map (·.2)) = tl := by
  apply List.ext_getElem
  · simp [backs]
  · intro i h1 h2
    simp only [List.getElem_map, List.getElem_reverse, backs, List.length_map, List.length_range, List.getElem_range]
    have e : tl.length - 1 - (tl.length - 1 - i) = i := by omega
    rw [e, List.getD_eq_getElem?_getD, List.getElem?_eq_getElem h2]
    rfl
theorem lastT_backs (tl : List Tl) (s : List UInt8) : lastT (backs tl tl.length) s = tailOf tl s := by
  have h : ∀ l : List (Int × Tl), (l.find? fun x => x.2.name.data.toList == s).map (·.2) = (l.map (·.2)).find? fun x => x.name.data.toList == s := by
    intro l
    induction l with
    | nil => rfl
    | cons x r ih =>
      simp only [List.map_cons, List.find?_cons]
      split
      · rfl
      · exact ih
  unfold lastT tailOf
  rw [h, backs_rev]
theorem back_in (A : Option Addr) (len cap : Nat) (n : Nat) (w : World) :
    CallsIn Fence.wide n Tryz.prog 61 #[.slice A len cap] w fun e w' => e = .returned (.func (.func 94) #[] #[.pointer (some ⟨w.heap.size, 0, none⟩)]) ∧ w' = w.alloc (.cells #[.slice A len cap] 28) := by
  refine callsIn_of_wp Tryz.func61 rfl trivial ?_ rfl
  simp only [Tryz.ntmps61, List.size_toArray, List.length_cons, List.length_nil, Nat.reduceAdd, Nat.reduceSub, Array.replicate_succ, Array.replicate_zero, List.push_toArray, List.append_toArray, List.nil_append, List.cons_append]
  gi_wp2
  go_ret
  exact ⟨rfl, rfl⟩
theorem back_stops (n : Nat) (hn : 1 ≤ n) (Bs n₀ : Nat) (A : Option Addr) (cap : Nat) (tl : List Tl) (hlen : tl.length < 9000000000000) (w : World) (hBs : Bs < w.heap.size) (hn₀ : n₀ ≤ w.heap.size)
    (hc : w.cell? ⟨Bs, 0, none⟩ = some (.slice A tl.length cap)) (hR : RdT w A tl) (hb : ∀ ad, A = some ad → tl ≠ [] → ad.block < n₀) :
    SeqStopsK Fence.wide n Tryz.prog 94 #[.pointer (some ⟨Bs, 0, none⟩)] (fun x : Int × Tl => #[Value.int .i64 x.1, tailV x.2]) (Kt n₀ Bs) (fun ys => ys = backs tl tl.length) (fun _ => True) tl.length w := fun l J Jx W hW _ _ hY h0 => by
  refine back1_in l Bs n₀ A cap tl hlen hb J Jx n hn hY W ((hW.cell (p := ⟨Bs, 0, none⟩) hBs).trans hc) (hR.below (hW.mono hn₀) hb) h0
end Go.Proofs.YtmlfeljhojmbbaaGreatDoor
