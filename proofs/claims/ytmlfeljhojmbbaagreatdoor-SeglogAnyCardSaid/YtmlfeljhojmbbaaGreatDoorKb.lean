/- Words for what a call keeps: all blocks but those of a list. -/
import Derived.Test.YtmlfeljhojmbbaaGreatDoorBlk
namespace Go.Proofs.YtmlfeljhojmbbaaGreatDoor
open Go.RowKit
set_option linter.unusedSimpArgs false
set_option linter.unusedVariables false
set_option maxRecDepth 100000

/-- all blocks but those of L stand -/
structure Kb (w w' : World) (L : List Nat) : Prop where
  os : w'.os = w.os
  tape : w'.tape = w.tape
  output : w'.output = w.output
  size : w.heap.size ≤ w'.heap.size
  block : ∀ b, b < w.heap.size → b ∉ L → w'.heap[b]? = w.heap[b]?
section
variable {w w' w'' : World} {L : List Nat}
theorem Kb.refl (w : World) (L : List Nat) : Kb w w L := ⟨rfl, rfl, rfl, Nat.le_refl _, fun _ _ _ => rfl⟩
theorem Kb.grown (h : Kb w w' L) {r : Nat} (hg : w'.grownBy w'' (some r)) (hr : r ∈ L) : Kb w w'' L :=
  ⟨hg.os.trans h.os, hg.tape.trans h.tape, hg.output.trans h.output, Nat.le_trans h.size hg.size, fun b hb hL => (hg.block b (Nat.lt_of_lt_of_le hb h.size) (fun e => hL (by injection e with e; rw [e]; exact hr))).trans (h.block b hb hL)⟩
theorem Kb.alloc (h : Kb w w' L) (o : Obj) : Kb w (w'.alloc o) L :=
  ⟨h.os, h.tape, h.output, by rw [World.size_alloc]; have := h.size; omega, fun b hb hL => (Below.heap_alloc w' o b (Nat.lt_of_lt_of_le hb h.size)).trans (h.block b hb hL)⟩
theorem Kb.setCell (h : Kb w w' L) {p : Addr} (hp : p.block ∈ L) (u : Value) : Kb w (w'.setCell p u) L :=
  ⟨h.os, h.tape, h.output, by simpa using h.size, fun b hb hL => (Below.heap_setCell w' p u b (fun e => hL (e ▸ hp))).trans (h.block b hb hL)⟩
theorem Kb.below (h : Kb w w' L) {B : Nat} {a : World} (hb : Below B a w) (hL : ∀ b, b ∈ L → B ≤ b) (hB : B ≤ w.heap.size) : Below B a w' :=
  ⟨h.os.trans hb.os, h.tape.trans hb.tape, h.output.trans hb.output, Nat.le_trans hb.size h.size, fun b hlt => (h.block b (Nat.lt_of_lt_of_le hlt hB) (fun e => Nat.not_le_of_lt hlt (hL b e))).trans (hb.block b hlt)⟩
theorem Kb.blk (h : Kb w w' L) {g t : Nat} {cs : Array Value} (hb : Blk w g t cs) (hL : g ∉ L) : Blk w' g t cs := (h.block g hb.lt hL).trans hb
theorem Kb.own (h : Kb w w' L) {e size n : Nat} {v : Value} {xs : List Value} (ho : Own w e size v n xs) (hL : ∀ g, v.ownBlock = some g → g ∉ L) : Own w' e size v n xs :=
  ho.keep fun g hg => h.block g (ho.block_lt hg) (hL g hg)
end
theorem Kb.of_grown {w w' : World} {L : List Nat} {row : Option Nat} (hg : w.grownBy w' row) (h : ∀ r, row = some r → r ∈ L) : Kb w w' L :=
  ⟨hg.os, hg.tape, hg.output, hg.size, fun b hb hL => hg.block b hb (fun e => hL (h b e.symm))⟩
theorem Kb.grown_new {w w' w'' : World} {L : List Nat} (h : Kb w w' L) {r : Nat} (hg : w'.grownBy w'' (some r)) (hr : w.heap.size ≤ r) : Kb w w'' L :=
  ⟨hg.os.trans h.os, hg.tape.trans h.tape, hg.output.trans h.output, Nat.le_trans h.size hg.size, fun b hb hL => (hg.block b (Nat.lt_of_lt_of_le hb h.size) (fun e => by injection e with e; omega)).trans (h.block b hb hL)⟩
theorem Kb.below_ {w w' w'' : World} {L : List Nat} (h : Kb w w' L) (hb : Below w'.heap.size w' w'') : Kb w w'' L :=
  ⟨hb.os.trans h.os, hb.tape.trans h.tape, hb.output.trans h.output, Nat.le_trans h.size hb.size, fun b hlt hL => (hb.block b (Nat.lt_of_lt_of_le hlt h.size)).trans (h.block b hlt hL)⟩
theorem Kb.trans {w w' w'' : World} {L L' : List Nat} (h : Kb w w' L) (h' : Kb w' w'' L') (hL : ∀ x ∈ L', x ∈ L ∨ w.heap.size ≤ x) : Kb w w'' L :=
  ⟨h'.os.trans h.os, h'.tape.trans h.tape, h'.output.trans h.output, Nat.le_trans h.size h'.size, fun b hb hn => (h'.block b (Nat.lt_of_lt_of_le hb h.size) (fun e => (hL b e).elim hn fun hle => Nat.lt_irrefl _ (Nat.lt_of_lt_of_le hb hle))).trans (h.block b hb hn)⟩
theorem Kb.mono {w w' : World} {L L' : List Nat} (h : Kb w w' L) (hL : ∀ x ∈ L, x ∈ L') : Kb w w' L' :=
  ⟨h.os, h.tape, h.output, h.size, fun b hb hn => h.block b hb fun e => hn (hL b e)⟩
theorem Kb.of_below {w w' : World} (h : Below w.heap.size w w') (L : List Nat) : Kb w w' L := ⟨h.os, h.tape, h.output, h.size, fun b hb _ => h.block b hb⟩
end Go.Proofs.YtmlfeljhojmbbaaGreatDoor
