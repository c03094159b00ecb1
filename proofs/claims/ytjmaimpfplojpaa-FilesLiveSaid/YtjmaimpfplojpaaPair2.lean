/- Both disks of a law, in blocks of their own; the blocks Z stand beside. -/
import Derived.Test.YtjmaimpfplojpaaPair
namespace Go.Proofs.Ytjmaimpfplojpaa
open Go.RowKit Go.Maps
set_option linter.unusedSimpArgs false
set_option linter.unusedVariables false
set_option maxRecDepth 100000

theorem dd_inv {w : World} {gd : Nat} {F : List Nat} {d : Ds} (h : DD w gd F d) : used d.S ≤ 1099511627776 ∧ ∀ x ∈ d.S, x.2.2 ≤ x.2.1.length ∧ x.2.1.length ≤ 1048576 := by
  obtain ⟨gm, es, hD, hS, hF⟩ := h
  rw [← hS]
  refine ⟨by unfold fls; rw [used_map]; exact hD.sum, fun x hx => ?_⟩
  obtain ⟨e, he, rfl⟩ := List.mem_map.1 hx
  exact hD.len e he
theorem dd_tight {w : World} {gd : Nat} {F : List Nat} {d : Ds} (h : DD w gd F d) : ∃ F0, DD w gd F0 d ∧ (∀ x ∈ F0, x ∈ F) ∧ ∀ x ∈ F0, x < w.heap.size := by
  obtain ⟨gm, es, hD, hS, hF⟩ := h
  exact ⟨foot gd gm es, ⟨gm, es, hD, hS, fun x hx => hx⟩, hF, fun x hx => hD.lt hx⟩
structure Two (w0 w : World) (gd gx : Nat) (d : Ds) (T : List Fl) (r s f : Int) (Z : List Nat) (H : Nat → Option Obj) : Prop where
  go : ∃ F G, DD w gd F d ∧ NRd w gx G T r s f ∧ (∀ x ∈ F, x ∉ G ∧ w0.heap.size ≤ x ∧ x ∉ Z) ∧ (∀ x ∈ G, w0.heap.size ≤ x ∧ x ∉ Z)
  below : Below w0.heap.size w0 w
  zs : ∀ z ∈ Z, z < w.heap.size ∧ w.heap[z]? = H z
section
variable {w0 w w' : World} {gd gx : Nat} {d : Ds} {T : List Fl} {r s f : Int} {Z : List Nat} {H : Nat → Option Obj}
theorem Two.quiet (h : Two w0 w gd gx d T r s f Z H) (hb : Below w.heap.size w w') : Two w0 w' gd gx d T r s f Z H := by
  obtain ⟨F, G, h1, h2, h3, h4⟩ := h.go
  exact ⟨⟨F, G, Dsk.below h1 hb, h2.below hb, h3, h4⟩, h.below.trans (hb.mono h.below.size), fun z hz => ⟨Nat.lt_of_lt_of_le (h.zs z hz).1 hb.size, (hb.block z (h.zs z hz).1).trans (h.zs z hz).2⟩⟩
theorem Two.drew (h : Two w0 w gd gx d T r s f Z H) : Two w0 w.drew gd gx d T r s f Z H := h.quiet ⟨rfl, rfl, rfl, Nat.le_refl _, fun _ _ => rfl⟩
theorem Two.drewN (h : Two w0 w gd gx d T r s f Z H) (q : Nat) : Two w0 (w.drewN q) gd gx d T r s f Z H := h.quiet ⟨rfl, rfl, rfl, Nat.le_refl _, fun _ _ => rfl⟩
theorem Two.less (h : Two w0 w gd gx d T r s f Z H) {Z' : List Nat} (hz : ∀ z ∈ Z', z ∈ Z) : Two w0 w gd gx d T r s f Z' H := by
  obtain ⟨F, G, h1, h2, h3, h4⟩ := h.go
  exact ⟨⟨F, G, h1, h2, fun x hx => ⟨(h3 x hx).1, (h3 x hx).2.1, fun e => (h3 x hx).2.2 (hz x e)⟩, fun x hx => ⟨(h4 x hx).1, fun e => (h4 x hx).2 (hz x e)⟩⟩, h.below, fun z hz' => h.zs z (hz z hz')⟩
/-- a new block stands beside -/
theorem Two.box (h : Two w0 w gd gx d T r s f Z H) (o : Obj) : Two w0 (w.alloc o) gd gx d T r s f (w.heap.size :: Z) (fun z => if z = w.heap.size then some o else H z) := by
  obtain ⟨F, G, h1, h2, h3, h4⟩ := h.go
  obtain ⟨F0, a1, a2, a3⟩ := dd_tight h1
  obtain ⟨G0, b1, b2, b3⟩ := h2.tight
  have hb : Below w.heap.size w (w.alloc o) := (Below.refl _ w).alloc (Nat.le_refl _) o
  have hq := h.quiet hb
  refine ⟨⟨F0, G0, Dsk.below a1 hb, b1.below hb, fun x hx => ⟨fun hg => (h3 x (a2 x hx)).1 (b2 x hg), (h3 x (a2 x hx)).2.1, fun e => ?_⟩, fun x hx => ⟨(h4 x (b2 x hx)).1, fun e => ?_⟩⟩, hq.below, fun z hz => ?_⟩
  · rcases List.mem_cons.1 e with rfl | e
    · exact Nat.lt_irrefl _ (a3 _ hx)
    · exact (h3 x (a2 x hx)).2.2 e
  · rcases List.mem_cons.1 e with rfl | e
    · exact Nat.lt_irrefl _ (b3 _ hx)
    · exact (h4 x (b2 x hx)).2 e
  · rcases List.mem_cons.1 hz with rfl | hz
    · refine ⟨by rw [World.size_alloc]; omega, ?_⟩
      simp only [if_true]
      exact heap_alloc_new w o
    · have := (h.zs z hz).1
      refine ⟨(hq.zs z hz).1, ?_⟩
      simp only [if_neg (show ¬ z = w.heap.size by omega)]
      exact (hq.zs z hz).2
/-- new blocks of a call stand beside -/
theorem Two.fresh (h : Two w0 w gd gx d T r s f Z H) (hb : Below w.heap.size w w') {Z' : List Nat} (hz : ∀ z ∈ Z', w.heap.size ≤ z ∧ z < w'.heap.size) : Two w0 w' gd gx d T r s f (Z' ++ Z) (fun z => w'.heap[z]?) := by
  obtain ⟨F, G, h1, h2, h3, h4⟩ := h.go
  obtain ⟨F0, a1, a2, a3⟩ := dd_tight h1
  obtain ⟨G0, b1, b2, b3⟩ := h2.tight
  have hq := h.quiet hb
  refine ⟨⟨F0, G0, Dsk.below a1 hb, b1.below hb, fun x hx => ⟨fun hg => (h3 x (a2 x hx)).1 (b2 x hg), (h3 x (a2 x hx)).2.1, fun e => ?_⟩, fun x hx => ⟨(h4 x (b2 x hx)).1, fun e => ?_⟩⟩, hq.below, fun z hz' => ?_⟩
  · rcases List.mem_append.1 e with e | e
    · have := (hz x e).1
      have := a3 x hx
      omega
    · exact (h3 x (a2 x hx)).2.2 e
  · rcases List.mem_append.1 e with e | e
    · have := (hz x e).1
      have := b3 x hx
      omega
    · exact (h4 x (b2 x hx)).2 e
  · rcases List.mem_append.1 hz' with hz' | hz'
    · exact ⟨(hz z hz').2, rfl⟩
    · exact ⟨(hq.zs z hz').1, rfl⟩
theorem Two.prog (h : Two w0 w gd gx d T r s f Z H) : ∃ F, DD w gd F d ∧ (∀ x ∈ F, w0.heap.size ≤ x ∧ x ∉ Z) ∧ ∀ w' d', DStp w w' gd F d' → Two w0 w' gd gx d' T r s f Z H := by
  obtain ⟨F, G, h1, h2, h3, h4⟩ := h.go
  obtain ⟨G0, b1, b2, b3⟩ := h2.tight
  refine ⟨F, h1, fun x hx => (h3 x hx).2, fun w' d' hs => ?_⟩
  obtain ⟨F', c1, c2, c3⟩ := hs
  have hw := h.below.size
  refine ⟨⟨F', G0, c1, b1.kept c2 fun x hx hf => (h3 x hf).1 (b2 x hx), fun x hx => ?_, fun x hx => h4 x (b2 x hx)⟩, c2.below h.below (fun b hb => (h3 b hb).2.1) hw, fun z hz => ?_⟩
  · rcases c3 x hx with hx | hx
    · exact ⟨fun hg => (h3 x hx).1 (b2 x hg), (h3 x hx).2⟩
    · exact ⟨fun hg => by have := b3 x hg; omega, Nat.le_trans hw hx, fun hz => by have := (h.zs x hz).1; omega⟩
  · have h9 := h.zs z hz
    exact ⟨Nat.lt_of_lt_of_le h9.1 c2.size, (c2.block z h9.1 fun hf => (h3 z hf).2.2 hz).trans h9.2⟩
theorem Two.doc (h : Two w0 w gd gx d T r s f Z H) : ∃ G, NRd w gx G T r s f ∧ (∀ x ∈ G, w0.heap.size ≤ x ∧ x ∉ Z) ∧ ∀ w' T' r' s' f', RSt w w' gx G T' r' s' f' → Two w0 w' gd gx d T' r' s' f' Z H := by
  obtain ⟨F, G, h1, h2, h3, h4⟩ := h.go
  obtain ⟨F0, a1, a2, a3⟩ := dd_tight h1
  refine ⟨G, h2, h4, fun w' T' r' s' f' hs => ?_⟩
  obtain ⟨G', c1, c2, c3⟩ := hs
  have hw := h.below.size
  refine ⟨⟨F0, G', Dsk.kept a1 c2 fun x hx hg => (h3 x (a2 x hx)).1 hg, c1, fun x hx => ⟨fun hg => ?_, (h3 x (a2 x hx)).2⟩, fun x hx => ?_⟩, c2.below h.below (fun b hb => (h4 b hb).1) hw, fun z hz => ?_⟩
  · rcases c3 x hg with hg | hg
    · exact (h3 x (a2 x hx)).1 hg
    · have := a3 x hx
      omega
  · rcases c3 x hx with hx | hx
    · exact h4 x hx
    · exact ⟨Nat.le_trans hw hx, fun hz => by have := (h.zs x hz).1; omega⟩
  · have h9 := h.zs z hz
    exact ⟨Nat.lt_of_lt_of_le h9.1 c2.size, (c2.block z h9.1 fun hg => (h4 z hg).2 hz).trans h9.2⟩
/-- a cell of a block that stands beside is written -/
theorem Two.put (h : Two w0 w gd gx d T r s f Z H) {p : Addr} (hp : p.block ∈ Z) (hp0 : w0.heap.size ≤ p.block) (u : Value) : Two w0 (w.setCell p u) gd gx d T r s f (Z.filter fun z => z ≠ p.block) H := by
  obtain ⟨F, G, h1, h2, h3, h4⟩ := h.go
  have hk : Kb w (w.setCell p u) [p.block] := (Kb.refl w _).setCell (by simp) u
  have hzf : ∀ z, z ∈ Z.filter (fun z => z ≠ p.block) → z ∈ Z ∧ z ≠ p.block := fun z hz => by simpa using List.mem_filter.1 hz
  refine ⟨⟨F, G, Dsk.kept h1 hk fun x hx e => ?_, h2.kept hk fun x hx e => ?_, fun x hx => ⟨(h3 x hx).1, (h3 x hx).2.1, fun e => (h3 x hx).2.2 (hzf x e).1⟩, fun x hx => ⟨(h4 x hx).1, fun e => (h4 x hx).2 (hzf x e).1⟩⟩, hk.below h.below (fun b hb => by rw [List.mem_singleton.1 hb]; exact hp0) h.below.size, fun z hz => ?_⟩
  · rw [List.mem_singleton.1 e] at hx
    exact (h3 _ hx).2.2 hp
  · rw [List.mem_singleton.1 e] at hx
    exact (h4 _ hx).2 hp
  · obtain ⟨h5, h6⟩ := hzf z hz
    have h9 := h.zs z h5
    exact ⟨Nat.lt_of_lt_of_le h9.1 hk.size, (hk.block z h9.1 (by simpa using h6)).trans h9.2⟩
/-- blocks that stand beside turn -/
theorem Two.kb (h : Two w0 w gd gx d T r s f Z H) {L : List Nat} (hk : Kb w w' L) (hL : ∀ x ∈ L, x ∈ Z ∧ w0.heap.size ≤ x) {Z' : List Nat} (hz : ∀ z ∈ Z', z ∈ Z ∧ z ∉ L) : Two w0 w' gd gx d T r s f Z' H := by
  obtain ⟨F, G, h1, h2, h3, h4⟩ := h.go
  refine ⟨⟨F, G, Dsk.kept h1 hk fun x hx e => (h3 x hx).2.2 (hL x e).1, h2.kept hk fun x hx e => (h4 x hx).2 (hL x e).1, fun x hx => ⟨(h3 x hx).1, (h3 x hx).2.1, fun e => (h3 x hx).2.2 (hz x e).1⟩, fun x hx => ⟨(h4 x hx).1, fun e => (h4 x hx).2 (hz x e).1⟩⟩, hk.below h.below (fun b hb => (hL b hb).2) h.below.size, fun z hz' => ?_⟩
  have h9 := h.zs z (hz z hz').1
  exact ⟨Nat.lt_of_lt_of_le h9.1 hk.size, (hk.block z h9.1 (hz z hz').2).trans h9.2⟩
end
/-- both disks have the same files -/
structure Pr (w0 w : World) (gd gx : Nat) (d : Ds) (T : List Fl) (N : Nat) (Z : List Nat) (H : Nat → Option Obj) : Prop where
  two : Two w0 w gd gx d T d.room d.short d.fuse Z H
  perm : d.S.Perm T
  rising : T.Pairwise fun a b => a.1 < b.1
  len : T.length ≤ N
  n : d.n ≤ N
  r0 : 0 ≤ d.room
  r1 : d.room ≤ 1099511627776
  s0 : -1 ≤ d.short
  s1 : d.short ≤ 9223372036854775807
  f0 : -1 ≤ d.fuse
  f1 : d.fuse ≤ 9223372036854775807
  names : ∀ x ∈ T, x.1.length ≤ 32
section
variable {w0 w w' : World} {gd gx : Nat} {d : Ds} {T : List Fl} {N : Nat} {Z : List Nat} {H : Nat → Option Obj}
theorem Pr.same (h : Pr w0 w gd gx d T N Z H) (hN : N < 800000) : Same d T := by
  obtain ⟨F, h1, _⟩ := h.two.prog
  obtain ⟨h2, h3⟩ := dd_inv h1
  have hl := h.len
  exact ⟨h.perm, h.rising, by rw [← usedP h.perm]; exact h2, fun x hx => h3 x (h.perm.mem_iff.2 hx), by omega⟩
theorem Pr.ok (h : Pr w0 w gd gx d T N Z H) (hN : N < 800000) : d.Ok := ⟨by have := h.n; omega, h.r0, h.r1, h.s0, h.s1, h.f0, h.f1⟩
theorem Pr.quiet (h : Pr w0 w gd gx d T N Z H) (hb : Below w.heap.size w w') : Pr w0 w' gd gx d T N Z H := ⟨h.two.quiet hb, h.perm, h.rising, h.len, h.n, h.r0, h.r1, h.s0, h.s1, h.f0, h.f1, h.names⟩
theorem Pr.of_two {d' : Ds} {Z' : List Nat} {H' : Nat → Option Obj} (h : Pr w0 w gd gx d T N Z H) (ht : Two w0 w' gd gx d T d.room d.short d.fuse Z' H') : Pr w0 w' gd gx d T N Z' H' := ⟨ht, h.perm, h.rising, h.len, h.n, h.r0, h.r1, h.s0, h.s1, h.f0, h.f1, h.names⟩
theorem Pr.mono (h : Pr w0 w gd gx d T N Z H) {N' : Nat} (hN : N ≤ N') : Pr w0 w gd gx d T N' Z H := ⟨h.two, h.perm, h.rising, Nat.le_trans h.len hN, Nat.le_trans h.n hN, h.r0, h.r1, h.s0, h.s1, h.f0, h.f1, h.names⟩
end
end Go.Proofs.Ytjmaimpfplojpaa
