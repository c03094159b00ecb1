/- Words for the document's disk: its files in memory, and what a store leaves of them. Walks: the document's disk: place, Used, burn, isName, List, Synced, Short, Room, Fuse, New. Walks: the document's disk: Used, burn, Synced, New, Short, Room, Fuse. Walks: the document's disk: isName, List, drop. Walks: the document's disk: drop, add. Walks: the document's disk: add. Words: what a call of the document's disk leaves, in the words of its files alone. Walk: the document's disk: Append. Walk: the document's disk: Append. -/
import Derived.Test.YtmlfeljhojmbbaaGreatDoorOps2
import Derived.BigQuiet
import Derived.Deep.RegionHeld3
import Derived.Deep.RegionLaw
import Derived.Lib.Strings
import Derived.Laws.Cover1
namespace Go.Proofs.YtmlfeljhojmbbaaGreatDoor
open Go.RowKit Go.Maps
set_option linter.unusedSimpArgs false
set_option linter.unusedVariables false
set_option maxRecDepth 100000

theorem str_eq (a b : ByteArray) : (a.toList == b.toList) = decide (a.data.toList = b.data.toList) := by
  rw [Lib.toList_data, Lib.toList_data]
  by_cases h : a.data.toList = b.data.toList
  · simp [h]
  · rw [decide_eq_false h]
    exact beq_eq_false_iff_ne.2 h
/-- a file of the document's disk -/
structure RF where
  k : ByteArray
  A : Option Addr
  cp : Nat
  b : List UInt8
  syn : Nat
def RF.v (c : RF) : Value := .slice c.A c.b.length c.cp
def RF.cells (c : RF) : List Value := [.string c.k, c.v, .int .i64 (c.syn : Int)]
/-- a file, without its place in memory -/
def RF.fl (c : RF) : Fl := (c.k.data.toList, c.b, c.syn)
def rfs (R : List RF) : List Value := R.flatMap RF.cells
theorem rfs_cons (x : RF) (l : List RF) : rfs (x :: l) = .string x.k :: x.v :: .int .i64 (x.syn : Int) :: rfs l := rfl
theorem rfs_length (R : List RF) : (rfs R).length = R.length * 3 := by
  induction R with
  | nil => rfl
  | cons c r ih =>
    rw [rfs_cons, List.length_cons, List.length_cons, List.length_cons, ih, List.length_cons]
    omega
theorem rfs_get {R : List RF} {k : Nat} {c : RF} (h : R[k]? = some c) (j : Nat) (hj : j < 3) : (rfs R)[k * 3 + j]? = c.cells[j]? := by
  induction R generalizing k with
  | nil => simp at h
  | cons a r ih =>
    have e : rfs (a :: r) = a.cells ++ rfs r := rfl
    have hl : a.cells.length = 3 := rfl
    rw [e]
    cases k with
    | zero =>
      simp at h
      subst h
      rw [List.getElem?_append_left (by rw [hl]; omega)]
      simp
    | succ k =>
      rw [List.getElem?_append_right (by rw [hl]; omega), hl, show (k + 1) * 3 + j - 3 = k * 3 + j by omega]
      exact ih (by simpa using h)
theorem rfs_append (R S : List RF) : rfs (R ++ S) = rfs R ++ rfs S := by simp [rfs]
theorem rfs_setb {R : List RF} {k : Nat} {c : RF} (h : R[k]? = some c) (A : Option Addr) (cp : Nat) (b : List UInt8) : (rfs R).set (k * 3 + 1) (.slice A b.length cp) = rfs (R.set k ⟨c.k, A, cp, b, c.syn⟩) := by
  induction R generalizing k with
  | nil => simp at h
  | cons a r ih =>
    cases k with
    | zero =>
      simp at h
      subst h
      rw [List.set_cons_zero, rfs_cons, rfs_cons]
      rfl
    | succ k => rw [List.set_cons_succ, rfs_cons, rfs_cons, show (k + 1) * 3 + 1 = (k * 3 + 1) + 1 + 1 + 1 by omega, List.set_cons_succ, List.set_cons_succ, List.set_cons_succ, ih (by simpa using h)]
theorem rfs_sets {R : List RF} {k : Nat} {c : RF} (h : R[k]? = some c) (n : Nat) : (rfs R).set (k * 3 + 2) (.int .i64 (n : Int)) = rfs (R.set k ⟨c.k, c.A, c.cp, c.b, n⟩) := by
  induction R generalizing k with
  | nil => simp at h
  | cons a r ih =>
    cases k with
    | zero =>
      simp at h
      subst h
      rw [List.set_cons_zero, rfs_cons, rfs_cons]
      rfl
    | succ k => rw [List.set_cons_succ, rfs_cons, rfs_cons, show (k + 1) * 3 + 2 = (k * 3 + 2) + 1 + 1 + 1 by omega, List.set_cons_succ, List.set_cons_succ, List.set_cons_succ, ih (by simpa using h)]
theorem info_rf : (Tryz.prog.info? 115).map (fun i => (i.zero, i.size, i.bytes)) = some (some (.agg #[.string ByteArray.empty, .slice none 0 0, .int .i64 0]), 3, 48) := by kernel_rfl
theorem fld_addr (ad : Addr) (a j : Nat) (hj : 0 < j) : (⟨(ad.add a).block, (ad.add a).off + j, none⟩ : Addr) = ad.add (a + j) := by
  unfold Addr.add
  rw [if_neg (show ¬ a + j = 0 by omega)]
  by_cases h : a = 0
  · simp [h]
  · rw [if_neg h]
    simp [Nat.add_assoc]
/-- a disk of the document: its block gx, the row v of its files R -/
structure RdAt (w : World) (gx : Nat) (v : Value) (R : List RF) (room short fuse : Int) : Prop where
  blk : Blk w gx 111 #[v, .int .i64 room, .int .i64 short, .int .i64 fuse]
  own : Own w 115 3 v R.length (rfs R)
  rows : ∀ c ∈ R, Own w 5 1 c.v c.b.length (bys c.b)
def footD (gx : Nat) (v : Value) (R : List RF) : List Nat := gx :: v.ownBlock.toList ++ R.flatMap fun c => c.v.ownBlock.toList
theorem footD_cases {gx : Nat} {v : Value} {R : List RF} {x : Nat} (h : x ∈ footD gx v R) : x = gx ∨ v.ownBlock = some x ∨ ∃ c ∈ R, c.v.ownBlock = some x := by
  simp only [footD, List.cons_append, List.mem_cons, List.mem_append, List.mem_flatMap] at h
  rcases h with h | h | ⟨c, hc, h⟩
  · exact .inl h
  · exact .inr (.inl (by simpa using h))
  · exact .inr (.inr ⟨c, hc, by simpa using h⟩)
theorem footD_row {gx : Nat} {v : Value} {R : List RF} {x : Nat} (h : v.ownBlock = some x) : x ∈ footD gx v R := by simp [footD, h]
theorem footD_own {gx : Nat} {v : Value} {R : List RF} {c : RF} (hc : c ∈ R) {x : Nat} (h : c.v.ownBlock = some x) : x ∈ footD gx v R := by
  simp only [footD, List.cons_append, List.mem_cons, List.mem_append, List.mem_flatMap]
  exact .inr (.inr ⟨c, hc, by simp [h]⟩)
/-- what stands at place k of a row of files -/
theorem rf_cells {w wr : World} {A : Option Addr} {R : List RF} (hrd : Rd w A (rfs R)) {k : Nat} {c : RF} (hc : R[k]? = some c) (hb : Below w.heap.size w wr) :
    ∃ ad, A = some ad ∧ wr.cell? (ad.add (k * 3)) = some (.string c.k) ∧ wr.cell? ⟨(ad.add (k * 3)).block, (ad.add (k * 3)).off + 1, none⟩ = some (.slice c.A c.b.length c.cp) ∧ wr.cell? ⟨(ad.add (k * 3)).block, (ad.add (k * 3)).off + 2, none⟩ = some (.int .i64 (c.syn : Int)) := by
  obtain ⟨ad, rfl, h⟩ := hrd (fun e => by
    have := rfs_length R
    rw [e] at this
    have h2 := (List.getElem?_eq_some_iff.1 hc).1
    simp at this
    omega)
  have c0 := h (k * 3) _ (rfs_get hc 0 (by omega))
  have c1 := h (k * 3 + 1) _ (rfs_get hc 1 (by omega))
  have c2 := h (k * 3 + 2) _ (rfs_get hc 2 (by omega))
  refine ⟨ad, rfl, (hb.cell (World.block_lt_of_cell? w _ c0)).trans c0, ?_, ?_⟩
  · rw [fld_addr ad _ _ (by omega)]
    exact (hb.cell (World.block_lt_of_cell? w _ c1)).trans c1
  · rw [fld_addr ad _ _ (by omega)]
    exact (hb.cell (World.block_lt_of_cell? w _ c2)).trans c2
theorem own_types_ne {w : World} {e e' s s' n n' : Nat} {u u' : Value} {xs xs' : List Value} (h : Own w e s u n xs) (h' : Own w e' s' u' n' xs') (he : e ≠ e') : ∀ g, u.ownBlock = some g → u'.ownBlock ≠ some g := by
  intro g hg hg'
  rcases h.2 with ⟨rfl, _⟩ | ⟨g1, cap, cur, rfl, hh, _⟩
  · cases hg
  · rcases h'.2 with ⟨rfl, _⟩ | ⟨g2, cap', cur', rfl, hh', _⟩
    · cases hg'
    · have e1 : g1 = g := by simpa [Value.ownBlock] using hg
      have e2 : g2 = g := by simpa [Value.ownBlock] using hg'
      subst e1
      subst e2
      rw [hh] at hh'
      injection hh' with hh'
      injection hh' with _ h2
      exact he h2
theorem own_block_ne {w : World} {e s n gc t : Nat} {cs : Array Value} {u : Value} {xs : List Value} (h : Own w e s u n xs) (hb : Blk w gc t cs) (he : e ≠ t) : ∀ g, u.ownBlock = some g → g ≠ gc := by
  intro g hg e1
  rcases h.2 with ⟨rfl, _⟩ | ⟨g1, cap, cur, rfl, hh, _⟩
  · cases hg
  · have e2 : g1 = g := by simpa [Value.ownBlock] using hg
    subst e2
    unfold Blk at hb
    rw [e1, hb] at hh
    injection hh with hh
    injection hh with _ h2
    exact he h2.symm
/-- a cell of what is owned is written, whatever the elements' size -/
theorem Own.setAt {w : World} {e g n cap size : Nat} {xs : List Value} (h : Own w e size (.slice (some ⟨g, 0, none⟩) n cap) n xs) (i : Nat) (u : Value) :
    Own (w.setCell ⟨g, i, none⟩ u) e size (.slice (some ⟨g, 0, none⟩) n cap) n (xs.set i u) := by
  obtain ⟨hl, h⟩ := h
  refine ⟨by simpa using hl, ?_⟩
  rcases h with ⟨h, _⟩ | ⟨g', cap', cur, h, hb, h1, h2, h3, h4⟩
  · cases h
  · injection h with e1 e2 e3
    injection e1 with e1
    injection e1 with e1
    subst e1
    subst e3
    refine .inr ⟨g, cap, cur.setIfInBounds i u, rfl, ?_, h1, h2, by simpa using h3, ?_⟩
    · rw [setCell_eq_setRow w g i cur e (0, 0) u hb]
      exact setRow_heap w g _ _ _ _ hb
    · rw [Array.toList_setIfInBounds, ← h4, List.take_set]
theorem Own.freeAt {w : World} {e g n cap size : Nat} {xs : List Value} (h : Own w e size (.slice (some ⟨g, 0, none⟩) n cap) n xs) (i : Nat) : w.frozen? ⟨g, i, none⟩ = false := by
  rcases h.2 with ⟨h, _⟩ | ⟨g', cap', cur, hv, hb, _⟩
  · cases h
  · injection hv with h1 h2 h3
    injection h1 with h1
    injection h1 with h1
    subst h1
    simp [World.frozen?, hb]
section
variable {w w' : World} {gx : Nat} {v : Value} {R : List RF} {room short fuse : Int}
theorem RdAt.lt (h : RdAt w gx v R room short fuse) {x : Nat} (hx : x ∈ footD gx v R) : x < w.heap.size := by
  rcases footD_cases hx with rfl | hx | ⟨c, hc, hx⟩
  · exact h.blk.lt
  · exact h.own.block_lt hx
  · exact (h.rows c hc).block_lt hx
theorem RdAt.keep (h : RdAt w gx v R room short fuse) {X : List Nat} (hk : Kb w w' X) (hX : ∀ x ∈ footD gx v R, x ∉ X) : RdAt w' gx v R room short fuse :=
  ⟨hk.blk h.blk (hX _ (by simp [footD])), hk.own h.own fun g hg => hX g (footD_row hg), fun c hc => hk.own (h.rows c hc) fun g hg => hX g (footD_own hc hg)⟩
theorem RdAt.below (h : RdAt w gx v R room short fuse) (hb : Below w.heap.size w w') : RdAt w' gx v R room short fuse := h.keep (Kb.of_below hb []) (by simp)
theorem RdAt.row_ne (h : RdAt w gx v R room short fuse) : ∀ g, v.ownBlock = some g → g ≠ gx := own_block_ne h.own h.blk (by decide)
theorem RdAt.own_ne (h : RdAt w gx v R room short fuse) {c : RF} (hc : c ∈ R) : ∀ g, c.v.ownBlock = some g → g ≠ gx ∧ v.ownBlock ≠ some g := fun g hg => ⟨own_block_ne (h.rows c hc) h.blk (by decide) g hg, own_types_ne (h.rows c hc) h.own (by decide) g hg⟩
theorem RdAt.len (h : RdAt w gx v R room short fuse) {g n cap : Nat} (hv : v = .slice (some ⟨g, 0, none⟩) n cap) : n = R.length := by
  rcases h.own.2 with ⟨e, _⟩ | ⟨g', cap', cur, e, _⟩
  · rw [hv] at e; cases e
  · rw [hv] at e; injection e
/-- the bytes of a file are others -/
theorem RdAt.turnb (h : RdAt w gx v R room short fuse) {k : Nat} {c : RF} (hc : R[k]? = some c) {g n cap : Nat} (hv : v = .slice (some ⟨g, 0, none⟩) n cap) {A : Option Addr} {cp : Nat} {b : List UInt8} (ho : Own w 5 1 (.slice A b.length cp) b.length (bys b)) :
    RdAt (w.setCell ⟨g, k * 3 + 1, none⟩ (.slice A b.length cp)) gx v (R.set k ⟨c.k, A, cp, b, c.syn⟩) room short fuse := by
  have hk : Kb w (w.setCell ⟨g, k * 3 + 1, none⟩ (.slice A b.length cp)) [g] := (Kb.refl w _).setCell (by simp) _
  have hgv : v.ownBlock = some g := by rw [hv]; rfl
  refine ⟨hk.blk h.blk (by simpa using (h.row_ne g hgv).symm), ?_, fun d hd => ?_⟩
  · have hn := h.len hv
    have := h.own
    rw [hv, ← hn] at this
    have h2 := Own.setAt this (k * 3 + 1) (.slice A b.length cp)
    rw [rfs_setb hc A cp b] at h2
    rw [hv, List.length_set, ← hn]
    exact h2
  · rcases List.mem_or_eq_of_mem_set hd with hd | rfl
    · refine hk.own (h.rows d hd) fun x hx => ?_
      have := (h.own_ne hd x hx).2
      rw [hgv] at this
      simpa using fun e => this (by rw [e])
    · refine hk.own ho fun x hx => ?_
      have := own_types_ne ho h.own (by decide) x hx
      rw [hgv] at this
      simpa using fun e => this (by rw [e])
/-- how many are synced is another number -/
theorem RdAt.turns (h : RdAt w gx v R room short fuse) {k : Nat} {c : RF} (hc : R[k]? = some c) {g n cap : Nat} (hv : v = .slice (some ⟨g, 0, none⟩) n cap) (s : Nat) :
    RdAt (w.setCell ⟨g, k * 3 + 2, none⟩ (.int .i64 (s : Int))) gx v (R.set k ⟨c.k, c.A, c.cp, c.b, s⟩) room short fuse := by
  have hk : Kb w (w.setCell ⟨g, k * 3 + 2, none⟩ (.int .i64 (s : Int))) [g] := (Kb.refl w _).setCell (by simp) _
  have hgv : v.ownBlock = some g := by rw [hv]; rfl
  refine ⟨hk.blk h.blk (by simpa using (h.row_ne g hgv).symm), ?_, fun d hd => ?_⟩
  · have hn := h.len hv
    have := h.own
    rw [hv, ← hn] at this
    have h2 := Own.setAt this (k * 3 + 2) (.int .i64 (s : Int))
    rw [rfs_sets hc s] at h2
    rw [hv, List.length_set, ← hn]
    exact h2
  · have hd2 : ∃ d' ∈ R, d'.v = d.v ∧ d'.b = d.b := by
      rcases List.mem_or_eq_of_mem_set hd with hd | rfl
      · exact ⟨d, hd, rfl, rfl⟩
      · exact ⟨c, List.mem_of_getElem? hc, rfl, rfl⟩
    obtain ⟨d', hd', e1, e2⟩ := hd2
    rw [← e1, ← e2]
    refine hk.own (h.rows d' hd') fun x hx => ?_
    have := (h.own_ne hd' x hx).2
    rw [hgv] at this
    simpa using fun e => this (by rw [e])
/-- a number of the disk is another one -/
theorem RdAt.num (h : RdAt w gx v R room short fuse) (i : Nat) (u : Value) {room' short' fuse' : Int} (he : (#[v, .int .i64 room, .int .i64 short, .int .i64 fuse] : Array Value).setIfInBounds i u = #[v, .int .i64 room', .int .i64 short', .int .i64 fuse']) :
    RdAt (w.setCell ⟨gx, i, none⟩ u) gx v R room' short' fuse' := by
  have hk : Kb w (w.setCell ⟨gx, i, none⟩ u) [gx] := (Kb.refl w _).setCell (by simp) _
  refine ⟨?_, hk.own h.own fun g hg => by simpa using h.row_ne g hg, fun c hc => hk.own (h.rows c hc) fun g hg => by simpa using (h.own_ne hc g hg).1⟩
  have := h.blk.set_ i u
  rw [he] at this
  exact this
/-- the row, where there is a file -/
theorem RdAt.head (h : RdAt w gx v R room short fuse) (hn : 0 < R.length) : ∃ g cap, v = .slice (some ⟨g, 0, none⟩) R.length cap ∧ R.length ≤ cap ∧ cap ≤ maxLen ∧ ∀ j u, (rfs R)[j]? = some u → w.cell? ⟨g, j, none⟩ = some u := by
  obtain ⟨g, cap, hv, h1, h2⟩ := h.own.head hn
  obtain ⟨A, c', hv2, hrd, _⟩ := h.own.form
  rw [hv] at hv2
  injection hv2 with e1 e2 e3
  subst e1
  refine ⟨g, cap, hv, h1, h2, fun j u hu => ?_⟩
  obtain ⟨ad, e, hc⟩ := hrd (fun e => by rw [e] at hu; simp at hu)
  injection e with e
  subst e
  rw [← add_head]
  exact hc j u hu
end
def idxD (R : List RF) (s : List UInt8) : Nat := R.findIdx fun c => c.k.data.toList == s
theorem rf_at {R : List RF} {s : List UInt8} (h : idxD R s < R.length) : ∃ c, R[idxD R s]? = some c ∧ c.k.data.toList = s := by
  refine ⟨R[idxD R s]'h, List.getElem?_eq_getElem h, ?_⟩
  have h2 := List.findIdx_getElem (p := fun c : RF => c.k.data.toList == s) (xs := R) (w := h)
  show (R[List.findIdx (fun c => c.k.data.toList == s) R]'h).k.data.toList = s
  simpa using h2
theorem look_idx (R : List RF) (s : List UInt8) : look (R.map RF.fl) s = (R[idxD R s]?).map fun c => (c.b, c.syn) := by
  unfold look idxD
  induction R with
  | nil => rfl
  | cons a r ih =>
    rw [List.map_cons, List.find?_cons, List.findIdx_cons]
    by_cases h : a.k.data.toList = s
    · simp [RF.fl, h]
    · have h1 : ((RF.fl a).1 == s) = false := by simpa [RF.fl] using h
      have h2 : (a.k.data.toList == s) = false := by simpa using h
      rw [h1, h2]
      simpa using ih
end Go.Proofs.YtmlfeljhojmbbaaGreatDoor

namespace Go.Proofs.YtmlfeljhojmbbaaGreatDoor
open Go.RowKit Go.Maps
set_option linter.unusedSimpArgs false
set_option linter.unusedVariables false
set_option maxRecDepth 100000

def placeV (R : List RF) (s : List UInt8) : Int := if idxD R s < R.length then (idxD R s : Int) else -1
theorem idx_is {R : List RF} {s : List UInt8} {k : Nat} {c : RF} (hc : R[k]? = some c) (hk : k ≤ idxD R s) (he : c.k.data.toList = s) : idxD R s = k := by
  refine Nat.le_antisymm ?_ hk
  rcases Nat.lt_or_ge k (idxD R s) with h | h
  · have h9 := List.not_of_lt_findIdx h
    have h8 := (List.getElem?_eq_some_iff.1 hc).2
    rw [h8] at h9
    simp [he] at h9
  · exact h
theorem idx_ne {R : List RF} {s : List UInt8} {k : Nat} {c : RF} (hc : R[k]? = some c) (hne : c.k.data.toList ≠ s) : idxD R s ≠ k := by
  intro e
  have h9 : idxD R s < R.length := by rw [e]; exact (List.getElem?_eq_some_iff.1 hc).1
  obtain ⟨d, h1, h2⟩ := rf_at h9
  rw [e, hc] at h1
  injection h1 with h1
  subst h1
  exact hne h2
section
variable {w w' : World} {gx : Nat} {v : Value} {R : List RF} {room short fuse : Int}
set_option maxHeartbeats 1000000 in
theorem dplace_calls (hR : RdAt w gx v R room short fuse) (s : ByteArray) (hl : R.length < 1000000) :
    Calls Tryz.prog 69 #[.pointer (some ⟨gx, 0, none⟩), .string s] w fun e w' => e = .returned (.int .i64 (placeV R s.data.toList)) ∧ Below w.heap.size w w' := by
  obtain ⟨N, hN⟩ : ∃ N, N = R.length := ⟨_, rfl⟩
  have ho := hR.own
  have q0 : w.cell? ⟨gx, 0, none⟩ = some v := hR.blk.cell 0
  unfold placeV
  rw [← hN] at ho hl ⊢
  obtain ⟨A, c, rfl, hrd, hac, hcm, _⟩ := ho.form
  have HRD := Shut.mk hrd
  have HN := Shut.mk hN
  have hle : idxD R s.data.toList ≤ N := by rw [hN]; exact List.findIdx_le_length
  unfold maxLen at hcm
  obtain ⟨z, hz⟩ : ∃ z, z = (if idxD R s.data.toList < N then (idxD R s.data.toList : Int) else -1) := ⟨_, rfl⟩
  rw [← hz]
  have HZ := Shut.mk hz
  clear hR ho hrd hN hz
  go_enter Tryz.func69, Tryz.ntmps69
  go_wp2_with fail
  go_loopw [12] (fun i wr => ∃ k : Nat, k ≤ idxD R s.data.toList ∧ i = .int .i64 k ∧ Below w.heap.size w wr) (fun i _ => N - (intOf i).toNat)
  case atStart => exact ⟨0, Nat.zero_le _, rfl, Below.refl _ _⟩
  case round =>
    obtain ⟨k, hk, rfl, hbr⟩ := hrel
    have HBR := Shut.mk hbr
    by_cases hlt : k < N
    · obtain ⟨cc, hcc⟩ : ∃ cc, R[k]? = some cc := ⟨R[k]'(by rw [← HN.out]; exact hlt), List.getElem?_eq_getElem _⟩
      obtain ⟨ad, rfl, d0, d1, d2⟩ := rf_cells HRD.out hcc hbr
      have hkI : (k : Int) < (N : Int) := by omega
      by_cases hid : cc.k.data.toList = s.data.toList
      · have hix := idx_is hcc hk hid
        have hq : (cc.k.toList == s.toList) = true := by rw [str_eq, decide_eq_true hid]
        have hz := HZ.out
        rw [hix, if_pos hlt] at hz
        subst hz
        go_wp2_with fail
        go_ret
        exact ⟨rfl, HBR.out.trans (((Below.refl _ wr).alloc (Nat.le_refl _) _).mono HBR.out.size)⟩
      · have hne := idx_ne (s := s.data.toList) hcc hid
        have hq : (cc.k.toList == s.toList) = false := by rw [str_eq, decide_eq_false hid]
        go_wp2_with fail
        go_roundw
        case rel => exact ⟨k + 1, by omega, by go_num, HBR.out.trans (((Below.refl _ wr).alloc (Nat.le_refl _) _).mono HBR.out.size)⟩
        case measure => simp [intOf]; omega
    · have hkI : ¬ (k : Int) < (N : Int) := by omega
      have hz := HZ.out
      rw [if_neg (by omega)] at hz
      subst hz
      go_wp2_with fail
      go_ret
      exact ⟨rfl, hbr⟩
end
end Go.Proofs.YtmlfeljhojmbbaaGreatDoor

namespace Go.Proofs.YtmlfeljhojmbbaaGreatDoor
open Go.RowKit Go.Maps
set_option linter.unusedSimpArgs false
set_option linter.unusedVariables false
set_option maxRecDepth 100000

def usedR (R : List RF) : Nat := (R.map fun c => c.b.length).sum
theorem usedR_fl (R : List RF) : used (R.map RF.fl) = usedR R := by simp [used, usedR, RF.fl, Function.comp_def]
theorem usedR_take {R : List RF} {k : Nat} {c : RF} (h : R[k]? = some c) : usedR (R.take (k + 1)) = usedR (R.take k) + c.b.length := by
  unfold usedR
  rw [List.take_add_one, h]
  simp
theorem usedR_le (R : List RF) (k : Nat) : usedR (R.take k) ≤ usedR R := by
  unfold usedR
  have e : R.map (fun c => c.b.length) = (R.take k).map (fun c => c.b.length) ++ (R.drop k).map (fun c => c.b.length) := by rw [← List.map_append, List.take_append_drop]
  rw [e, List.sum_append]
  omega
section
variable {w w' : World} {gx : Nat} {v : Value} {R : List RF} {room short fuse : Int}
set_option maxHeartbeats 1000000 in
theorem rused_calls (hR : RdAt w gx v R room short fuse) (hl : R.length < 1000000) (hu : usedR R ≤ 1099511627776) :
    Calls Tryz.prog 70 #[.pointer (some ⟨gx, 0, none⟩)] w fun e w' => e = .returned (.int .i64 (usedR R : Int)) ∧ Below w.heap.size w w' := by
  obtain ⟨N, hN⟩ : ∃ N, N = R.length := ⟨_, rfl⟩
  have ho := hR.own
  have q0 : w.cell? ⟨gx, 0, none⟩ = some v := hR.blk.cell 0
  rw [← hN] at ho hl
  obtain ⟨A, c, rfl, hrd, hac, hcm, _⟩ := ho.form
  have HRD := Shut.mk hrd
  have HN := Shut.mk hN
  have HU := Shut.mk (fun k => Nat.le_trans (usedR_le R k) hu)
  unfold maxLen at hcm
  clear hR ho hrd hN hu
  go_enter Tryz.func70, Tryz.ntmps70
  go_wp2_with fail
  go_loopw [3, 11] (fun t i wr => ∃ k : Nat, k ≤ N ∧ i = .int .i64 k ∧ t = .int .i64 (usedR (R.take k) : Int) ∧ Below w.heap.size w wr) (fun _ i _ => N - (intOf i).toNat)
  case atStart => exact ⟨0, Nat.zero_le _, rfl, by simp [usedR], Below.refl _ _⟩
  case round =>
    obtain ⟨k, hk, rfl, rfl, hbr⟩ := hrel
    have HBR := Shut.mk hbr
    by_cases hlt : k < N
    · obtain ⟨cc, hcc⟩ : ∃ cc, R[k]? = some cc := ⟨R[k]'(by rw [← HN.out]; exact hlt), List.getElem?_eq_getElem _⟩
      obtain ⟨ad, rfl, d0, d1, d2⟩ := rf_cells HRD.out hcc hbr
      have hkI : (k : Int) < (N : Int) := by omega
      have hsu := usedR_take hcc
      have hb1 := HU.out (k + 1)
      obtain ⟨u0, hu0⟩ : ∃ u0, u0 = usedR (R.take k) := ⟨_, rfl⟩
      obtain ⟨u1, hu1⟩ : ∃ u1, u1 = usedR (R.take (k + 1)) := ⟨_, rfl⟩
      rw [← hu0, ← hu1] at hsu
      rw [← hu1] at hb1
      rw [← hu0]
      have HU1 := Shut.mk hu1
      have HSU := Shut.mk hsu
      clear hu0 hu1 hcc
      have hwr : IntKind.i64.wrap ((u0 : Int) + (cc.b.length : Int)) = (u1 : Int) := by rw [IntKind.wrap_i64]; omega
      clear hsu
      go_wp2_with fail
      go_roundw
      case rel => exact ⟨k + 1, by omega, by go_num, by rw [← HU1.out], HBR.out.trans (((Below.refl _ wr).alloc (Nat.le_refl _) _).mono HBR.out.size)⟩
      case measure => simp [intOf]; omega
    · obtain rfl : k = N := by omega
      have hkI : ¬ (k : Int) < (k : Int) := by omega
      have HT := Shut.mk (show R.take k = R by rw [HN.out, List.take_length])
      rw [HT.out]
      go_wp2_with fail
      go_ret
      exact ⟨rfl, HBR.out⟩
/-- burn: false, if the fuse is through -/
theorem burn_calls (hR : RdAt w gx v R room short fuse) (f0 : -1 ≤ fuse) (f1 : fuse ≤ 9223372036854775807) :
    Calls Tryz.prog 68 #[.pointer (some ⟨gx, 0, none⟩)] w fun e w' => e = .returned (.bool (decide (fuse ≠ 0))) ∧ RdAt w' gx v R room short (chFuse true fuse) ∧ Kb w w' [gx] := by
  have q3 : w.cell? ⟨gx, 3, none⟩ = some (.int .i64 fuse) := hR.blk.cell 3
  have f3 := hR.blk.free 3
  have HR := Shut.mk hR
  have hT := hR.num 3 (.int .i64 (fuse - 1)) (room' := room) (short' := short) (fuse' := fuse - 1) rfl
  have HT := Shut.mk hT
  clear hR hT
  by_cases h0 : fuse = 0
  · subst h0
    go_enter Tryz.func68, Tryz.ntmps68
    go_wp2_with fail
    go_ret
    exact ⟨rfl, HR.out, Kb.refl _ _⟩
  · by_cases h1 : 0 < fuse
    · have hw : IntKind.i64.wrap (fuse - 1) = fuse - 1 := by rw [IntKind.wrap_i64]; omega
      have e1 : chFuse true fuse = fuse - 1 := by simp [chFuse, h1]
      rw [e1, decide_eq_true h0]
      clear e1
      go_enter Tryz.func68, Tryz.ntmps68
      go_wp2_with fail
      go_ret
      exact ⟨rfl, HT.out, (Kb.refl w _).setCell (by simp) _⟩
    · have h1' : ¬ fuse > 0 := by omega
      have e1 : chFuse true fuse = fuse := by simp [chFuse, h1]
      rw [e1, decide_eq_true h0]
      clear e1
      go_enter Tryz.func68, Tryz.ntmps68
      go_wp2_with fail
      go_ret
      exact ⟨rfl, HR.out, Kb.refl _ _⟩
theorem placeV_cases (R : List RF) (s : List UInt8) : (∃ c, R[idxD R s]? = some c ∧ c.k.data.toList = s ∧ idxD R s < R.length ∧ placeV R s = (idxD R s : Int) ∧ look (R.map RF.fl) s = some (c.b, c.syn)) ∨ (placeV R s = -1 ∧ look (R.map RF.fl) s = none) := by
  by_cases hi : idxD R s < R.length
  · obtain ⟨c, h1, h2⟩ := rf_at hi
    exact .inl ⟨c, h1, h2, hi, by simp [placeV, hi], by rw [look_idx, h1]; rfl⟩
  · exact .inr ⟨by simp [placeV, hi], by rw [look_idx, List.getElem?_eq_none (by omega)]; rfl⟩
theorem rsynced_calls (hR : RdAt w gx v R room short fuse) (s : ByteArray) (hl : R.length < 1000000) :
    Calls Tryz.prog 81 #[.pointer (some ⟨gx, 0, none⟩), .string s] w fun e w' => e = .returned (.int .i64 ((((look (R.map RF.fl) s.data.toList).map (·.2)).getD 0 : Nat) : Int)) ∧ Below w.heap.size w w' := by
  have HP := Shut.mk (dplace_calls hR s hl)
  rcases placeV_cases R s.data.toList with ⟨c, hc, _, hi, hp, hk⟩ | ⟨hp, hk⟩
  · obtain ⟨g, cap, rfl, hnc, hcm, hcell⟩ := hR.head (by omega)
    have HC := Shut.mk (hcell (idxD R s.data.toList * 3 + 2) _ (rfs_get hc 2 (by omega)))
    have HB := Shut.mk hR.blk
    rw [hp] at HP
    rw [hk]
    unfold maxLen at hcm
    obtain ⟨k, hk⟩ : ∃ k, k = idxD R s.data.toList := ⟨_, rfl⟩
    rw [← hk] at HP HC hi
    have hgl : g < w.heap.size := World.block_lt_of_cell? w _ HC.out
    clear hcell hc hR hk hp
    go_enter Tryz.func81, Tryz.ntmps81
    go_wp2_with fail
    refine HP.out.mono ?_
    rintro e w1 ⟨rfl, hb1⟩
    have c0 : w1.cell? ⟨gx, 0, none⟩ = some (.slice (some ⟨g, 0, none⟩) R.length cap) := (hb1.cell HB.out.lt).trans (HB.out.cell 0)
    have c1 : w1.cell? ⟨g, k * 3 + 2, none⟩ = some (.int .i64 (c.syn : Int)) := (hb1.cell hgl).trans HC.out
    have hkI : (k : Int) < (R.length : Int) := by omega
    have hk0 : ¬ (k : Int) < 0 := by omega
    have hkm : R.length < 1000000 := hl
    go_wp2_with fail
    go_ret
    exact ⟨rfl, hb1⟩
  · rw [hp] at HP
    rw [hk]
    clear hR hp hk
    go_enter Tryz.func81, Tryz.ntmps81
    go_wp2_with fail
    refine HP.out.mono ?_
    rintro e w1 ⟨rfl, hb1⟩
    go_wp2_with fail
    go_ret
    exact ⟨rfl, hb1⟩
theorem rshort_calls (hR : RdAt w gx v R room short fuse) (x : Int) : Calls Tryz.prog 33 #[.pointer (some ⟨gx, 0, none⟩), .int .i64 x] w fun e w' =>
    e = .returned (.int .i64 (if x < 0 then 1 else 0)) ∧ RdAt w' gx v R room (if x < 0 then short else x) fuse ∧ Kb w w' [gx] := by
  have q3 : w.cell? ⟨gx, 2, none⟩ = some (.int .i64 short) := hR.blk.cell 2
  have f3 := hR.blk.free 2
  have HR := Shut.mk hR
  have HT := Shut.mk (hR.num 2 (.int .i64 x) (room' := room) (short' := x) (fuse' := fuse) rfl)
  clear hR
  by_cases h : x < 0
  · rw [if_pos h, if_pos h]
    go_enter Tryz.func33, Tryz.ntmps33
    go_wp2_with fail
    go_ret
    exact ⟨rfl, HR.out, Kb.refl _ _⟩
  · rw [if_neg h, if_neg h]
    go_enter Tryz.func33, Tryz.ntmps33
    go_wp2_with fail
    go_ret
    exact ⟨rfl, HT.out, (Kb.refl w _).setCell (by simp) _⟩
theorem rfuse_calls (hR : RdAt w gx v R room short fuse) (x : Int) : Calls Tryz.prog 36 #[.pointer (some ⟨gx, 0, none⟩), .int .i64 x] w fun e w' =>
    e = .returned (.int .i64 (if x < 0 then 1 else 0)) ∧ RdAt w' gx v R room short (if x < 0 then fuse else x) ∧ Kb w w' [gx] := by
  have q3 : w.cell? ⟨gx, 3, none⟩ = some (.int .i64 fuse) := hR.blk.cell 3
  have f3 := hR.blk.free 3
  have HR := Shut.mk hR
  have HT := Shut.mk (hR.num 3 (.int .i64 x) (room' := room) (short' := short) (fuse' := x) rfl)
  clear hR
  by_cases h : x < 0
  · rw [if_pos h, if_pos h]
    go_enter Tryz.func36, Tryz.ntmps36
    go_wp2_with fail
    go_ret
    exact ⟨rfl, HR.out, Kb.refl _ _⟩
  · rw [if_neg h, if_neg h]
    go_enter Tryz.func36, Tryz.ntmps36
    go_wp2_with fail
    go_ret
    exact ⟨rfl, HT.out, (Kb.refl w _).setCell (by simp) _⟩
theorem rroom_calls (hR : RdAt w gx v R room short fuse) (x : Int) : Calls Tryz.prog 35 #[.pointer (some ⟨gx, 0, none⟩), .int .i64 x] w fun e w' =>
    e = .returned (.int .i64 (if x < 0 ∨ 1099511627776 < x then 1 else 0)) ∧ RdAt w' gx v R (if x < 0 ∨ 1099511627776 < x then room else x) short fuse ∧ Kb w w' [gx] := by
  have q3 : w.cell? ⟨gx, 1, none⟩ = some (.int .i64 room) := hR.blk.cell 1
  have f3 := hR.blk.free 1
  have HR := Shut.mk hR
  have HT := Shut.mk (hR.num 1 (.int .i64 x) (room' := x) (short' := short) (fuse' := fuse) rfl)
  clear hR
  by_cases h : x < 0
  · rw [if_pos (.inl h), if_pos (.inl h)]
    go_enter Tryz.func35, Tryz.ntmps35
    go_wp2_with fail
    go_ret
    exact ⟨rfl, HR.out, Kb.refl _ _⟩
  · by_cases h2 : 1099511627776 < x
    · rw [if_pos (.inr h2), if_pos (.inr h2)]
      go_enter Tryz.func35, Tryz.ntmps35
      go_wp2_with fail
      go_ret
      exact ⟨rfl, HR.out, Kb.refl _ _⟩
    · rw [if_neg (by omega), if_neg (by omega)]
      go_enter Tryz.func35, Tryz.ntmps35
      go_wp2_with fail
      go_ret
      exact ⟨rfl, HT.out, (Kb.refl w _).setCell (by simp) _⟩
/-- New: a disk without files -/
theorem rnew_calls (room : Int) (w : World) (h0 : 0 ≤ room) (h1 : room ≤ 1099511627776) :
    Calls Tryz.prog 19 #[.int .i64 room] w fun e w' => ∃ gx, e = .returned (.tuple #[.pointer (some ⟨gx, 0, none⟩), .int .i64 0]) ∧ RdAt w' gx (.slice none 0 0) [] room (-1) (-1) ∧ Below w.heap.size w w' ∧ w.heap.size ≤ gx := by
  have g0 : ¬ room < 0 := by omega
  have g1 : ¬ room > 1099511627776 := by omega
  go_enter Tryz.func19, Tryz.ntmps19
  go_wp2_with fail
  go_ret2
  exact ⟨_, rfl, ⟨Blk.new _ _ _, Own.nil _ _ _, by simp⟩, (Below.refl _ w).alloc (Nat.le_refl _) _, Nat.le_refl _⟩
end
end Go.Proofs.YtmlfeljhojmbbaaGreatDoor

namespace Go.Proofs.YtmlfeljhojmbbaaGreatDoor
open Go.RowKit Go.Maps
set_option linter.unusedSimpArgs false
set_option linter.unusedVariables false
set_option maxRecDepth 100000

theorem info_str : (Tryz.prog.info? 9).map (fun i => (i.zero, i.size, i.bytes)) = some (some (.string ByteArray.empty), 1, 16) := by kernel_rfl
theorem odd_iff (x : UInt8) : oddB x = true ↔ (((x.toNat : Int) < 97 ∨ (x.toNat : Int) > 122) ∧ ((x.toNat : Int) < 48 ∨ (x.toNat : Int) > 57) ∧ (x.toNat : Int) ≠ 45 ∧ (x.toNat : Int) ≠ 46) := by
  unfold oddB
  have e1 : (x < 97) = ((x.toNat : Int) < 97) := by rw [UInt8.lt_iff_toNat_lt]; simp; omega
  have e2 : (x > 122) = ((x.toNat : Int) > 122) := by rw [gt_iff_lt, UInt8.lt_iff_toNat_lt]; simp; omega
  have e3 : (x < 48) = ((x.toNat : Int) < 48) := by rw [UInt8.lt_iff_toNat_lt]; simp; omega
  have e4 : (x > 57) = ((x.toNat : Int) > 57) := by rw [gt_iff_lt, UInt8.lt_iff_toNat_lt]; simp; omega
  have e5 : (x = 45) = ((x.toNat : Int) = 45) := by rw [← UInt8.toNat_inj]; simp; omega
  have e6 : (x = 46) = ((x.toNat : Int) = 46) := by rw [← UInt8.toNat_inj]; simp; omega
  simp only [e1, e2, e3, e4, bne, Bool.and_eq_true, Bool.or_eq_true, decide_eq_true_eq, Bool.not_eq_true', beq_eq_false_iff_ne, ne_eq, e5, e6]
  constructor
  · rintro ⟨⟨⟨h1, h2⟩, h3⟩, h4⟩
    exact ⟨h1, h2, h3, h4⟩
  · rintro ⟨h1, h2, h3, h4⟩
    exact ⟨⟨⟨h1, h2⟩, h3⟩, h4⟩
set_option maxHeartbeats 2000000 in
theorem risName_calls (s : ByteArray) (w : World) (hs : s.size ≤ reach) :
    Calls Tryz.prog 67 #[.string s] w fun e w' => e = .returned (.bool (nameOk s.data.toList)) ∧ w = w' := by
  unfold reach at hs
  have hsz := Lib.size_eq s
  have HI := Shut.mk (fun (k : Nat) (hk : k < s.data.toList.length) => (fun w => by
    rw [run_index_string w 9 s .i64 k Tryz.underlying9, dif_pos ⟨by omega, by omega⟩]
    have hk2 : k < s.data.size := by rw [← Array.length_toList]; exact hk
    have e : s.data.toList.getD k 0 = s.data[k] := by rw [List.getD_eq_getElem?_getD, List.getElem?_eq_getElem hk]; rfl
    rw [e]
    rfl : ∀ w : World, (Instr.index 9 (.string s) (.int .i64 (k : Int))).run Tryz.prog w = .ok (.int .u8 ((s.data.toList.getD k 0).toNat : Int)) w))
  obtain ⟨l, hl⟩ : ∃ l, l = s.data.toList := ⟨_, rfl⟩
  rw [← hl] at hsz HI ⊢
  have HL := Shut.mk hsz
  obtain ⟨nz, hnz⟩ : ∃ nz, nz = nameOk l := ⟨_, rfl⟩
  rw [← hnz]
  have HZ := Shut.mk hnz
  clear hl hsz hnz
  go_enter Tryz.func67, Tryz.ntmps67
  go_wp2_with fail
  go_loop [3] (fun i => ∃ k : Nat, k ≤ s.size ∧ i = .int .i64 k ∧ (l.take k).any oddB = false) (fun i => s.size - (intOf i).toNat)
  case atStart => exact ⟨0, Nat.zero_le _, rfl, by simp⟩
  case round =>
    obtain ⟨k, hk, rfl, hany⟩ := hrel
    by_cases hlt : k < s.size
    · have hkI : (k : Int) < (s.size : Int) := by omega
      have hix := HI.out k (by rw [← HL.out]; exact hlt)
      have ht := any_take oddB l k (by rw [← HL.out]; exact hlt)
      rw [hany, Bool.false_or] at ht
      obtain ⟨z, hz⟩ : ∃ z : Int, z = ((l.getD k 0).toNat : Int) := ⟨_, rfl⟩
      have ho := odd_iff (l.getD k 0)
      rw [← hz] at hix ho
      by_cases hod : oddB (l.getD k 0) = true
      · obtain ⟨h1, h2, h3, h4⟩ := ho.1 hod
        rw [hod] at ht
        have HT := Shut.mk (any_take_le oddB l (k + 1) ht)
        have hA : nameOk l = false := by unfold nameOk; rw [HT.out]; simp
        have hzz := HZ.out
        rw [hA] at hzz
        subst hzz
        clear ho hod ht hany hz hA
        have g3 : (z != 45) = true := by simpa using h3
        have g4 : (z != 46) = true := by simpa using h4
        have h1' : z < 97 ∨ (¬ z < 97 ∧ z > 122) := by omega
        have h2' : z < 48 ∨ (¬ z < 48 ∧ z > 57) := by omega
        clear h1 h2 h3 h4
        rcases h1' with h1 | ⟨h1, h5⟩ <;> rcases h2' with h2 | ⟨h2, h6⟩
        · go_wp2_with fail
          go_ret
          exact ⟨rfl, rfl⟩
        · go_wp2_with fail
          go_ret
          exact ⟨rfl, rfl⟩
        · omega
        · go_wp2_with fail
          go_ret
          exact ⟨rfl, rfl⟩
      · have hod' : oddB (l.getD k 0) = false := by simpa using hod
        rw [hod'] at ht
        have HT := Shut.mk ht
        have ho2 : ¬ ((z < 97 ∨ z > 122) ∧ (z < 48 ∨ z > 57) ∧ z ≠ 45 ∧ z ≠ 46) := fun h => hod (ho.2 h)
        clear ho hod hod' ht hany hz
        have hc : (¬ z < 97 ∧ ¬ z > 122) ∨ (z < 97 ∧ ¬ z < 48 ∧ ¬ z > 57) ∨ z = 45 ∨ z = 46 := by omega
        clear ho2
        rcases hc with ⟨g1, g2⟩ | ⟨g1, g2, g3⟩ | rfl | rfl <;>
        (go_wp2_with fail
         go_round
         case rel => exact ⟨k + 1, by omega, by go_num, HT.out⟩
         case measure => simp [intOf]; omega)
    · obtain rfl : k = s.size := by omega
      have hkI : ¬ (s.size : Int) < (s.size : Int) := by omega
      have hany' : l.any oddB = false := by rw [HL.out, List.take_length] at hany; exact hany
      have hA : nameOk l = (decide (1 ≤ s.size) && decide (s.size ≤ 32)) := by unfold nameOk; rw [hany', ← HL.out]; simp; rfl
      have hzz := HZ.out
      rw [hA] at hzz
      by_cases h1 : 1 ≤ s.size
      · have g1 : (s.size : Int) ≥ 1 := by omega
        by_cases h2 : s.size ≤ 32
        · have g2 : (s.size : Int) ≤ 32 := by omega
          rw [decide_eq_true h1, decide_eq_true h2] at hzz
          subst hzz
          go_wp2_with fail
          go_ret
          exact ⟨rfl, rfl⟩
        · have g2 : ¬ (s.size : Int) ≤ 32 := by omega
          rw [decide_eq_true h1, decide_eq_false h2] at hzz
          subst hzz
          go_wp2_with fail
          go_ret
          exact ⟨rfl, rfl⟩
      · have g1 : ¬ (s.size : Int) ≥ 1 := by omega
        rw [decide_eq_false h1, Bool.false_and] at hzz
        subst hzz
        go_wp2_with fail
        go_ret
        exact ⟨rfl, rfl⟩
section
variable {w w' : World} {gx : Nat} {v : Value} {R : List RF} {room short fuse : Int}
set_option maxHeartbeats 2000000 in
theorem rlist_calls (hR : RdAt w gx v R room short fuse) (hl : R.length < 1000000) :
    Calls Tryz.prog 74 #[.pointer (some ⟨gx, 0, none⟩)] w fun e w' => ∃ u, e = .returned u ∧ Own w' 9 1 u (R.map (·.k)).length ((R.map (·.k)).map Value.string) ∧ Below w.heap.size w w' ∧ ∀ g, u.ownBlock = some g → w.heap.size ≤ g := by
  obtain ⟨i0, hi, hz0, hz1, hz2⟩ := info_parts info_str
  obtain ⟨N, hN⟩ : ∃ N, N = R.length := ⟨_, rfl⟩
  have ho := hR.own
  have q0 : w.cell? ⟨gx, 0, none⟩ = some v := hR.blk.cell 0
  rw [← hN] at ho hl
  obtain ⟨A, c, rfl, hrd, hac, hcm, _⟩ := ho.form
  have HRD := Shut.mk hrd
  have HN := Shut.mk hN
  unfold maxLen at hcm
  clear hR ho hrd hN
  go_enter Tryz.func74, Tryz.ntmps74
  go_wp2_with fail
  go_loopw [3, 11] (fun u i wr => ∃ k : Nat, k ≤ N ∧ i = .int .i64 k ∧ Own wr 9 1 u k (((R.take k).map (·.k)).map Value.string) ∧ (∀ g, u.ownBlock = some g → w.heap.size ≤ g) ∧ Below w.heap.size w wr) (fun _ i _ => N - (intOf i).toNat)
  case atStart => exact ⟨0, Nat.zero_le _, rfl, Own.nil _ _ _, fun g hg => (by cases hg), Below.refl _ _⟩
  case round =>
    obtain ⟨k, hk, rfl, hou, hnew, hbr⟩ := hrel
    have HBR := Shut.mk hbr
    have HNEW := Shut.mk hnew
    obtain ⟨Au, cu, hu, _⟩ := hou.form
    subst hu
    have HOU := Shut.mk hou
    clear hou hnew
    by_cases hlt : k < N
    · obtain ⟨cc, hcc⟩ : ∃ cc, R[k]? = some cc := ⟨R[k]'(by rw [← HN.out]; exact hlt), List.getElem?_eq_getElem _⟩
      obtain ⟨ad, rfl, d0, d1, d2⟩ := rf_cells HRD.out hcc hbr
      have HTK := Shut.mk (show ((R.take (k + 1)).map (·.k)).map Value.string = ((R.take k).map (·.k)).map Value.string ++ [.string cc.k] by
        rw [List.take_add_one, hcc]
        simp)
      have hkI : (k : Int) < (N : Int) := by omega
      have hoa := (HOU.out.alloc (.cells #[.string cc.k, .slice cc.A cc.b.length cc.cp, .int .i64 (cc.syn : Int)] 115)).alloc (.cells #[.string cc.k] 9)
      have hra := rd_new (wr.alloc (.cells #[.string cc.k, .slice cc.A cc.b.length cc.cp, .int .i64 (cc.syn : Int)] 115)) #[.string cc.k] 9
      rw [World.size_alloc] at hra
      have hba := (HBR.out.alloc HBR.out.size (.cells #[.string cc.k, .slice cc.A cc.b.length cc.cp, .int .i64 (cc.syn : Int)] 115)).alloc (by rw [World.size_alloc]; have := HBR.out.size; omega) (.cells #[.string cc.k] 9)
      have hsz := HBR.out.size
      go_wp2_with (
        at_builtin
        refine wpList_append _ rfl _ _ _ rfl 9 i0 _ 1 16 Tryz.underlying51 hi hz0 hz1 hz2 rfl (by decide) _ _ _ rfl hoa _ 1 1 _ rfl rfl hra (by simp [Value.oneCell']) (by simp only [maxLen]; omega) (by omega) ?_
        intro v4 w4 hap)
      case roundEnd =>
        refine ⟨⟨k + 1, by omega, by go_num, hap.own.cast rfl HTK.out.symm, fun g hg => ?_, hba.grown hap.grown hba.size (fun r hr => HNEW.out r hr)⟩, by simp [intOf]; omega⟩
        rcases hap.lies with h | h
        · exact HNEW.out g (h ▸ hg)
        · rw [h] at hg
          injection hg with hg
          rw [← hg]
          exact hba.size
    · obtain rfl : k = N := by omega
      have hkI : ¬ (k : Int) < (k : Int) := by omega
      have HT := Shut.mk (show R.take k = R by rw [HN.out, List.take_length])
      go_wp2_with fail
      go_ret
      have ho := HOU.out
      rw [HT.out] at ho
      exact ⟨_, rfl, ho.cast (by simpa using HN.out) (by simp), HBR.out, HNEW.out⟩
end
end Go.Proofs.YtmlfeljhojmbbaaGreatDoor

namespace Go.Proofs.YtmlfeljhojmbbaaGreatDoor
open Go.RowKit Go.Maps
set_option linter.unusedSimpArgs false
set_option linter.unusedVariables false
set_option maxRecDepth 100000

abbrev RF.obj (c : RF) : Obj := .cells #[.string c.k, .slice c.A c.b.length c.cp, .int .i64 (c.syn : Int)] 115
/-- a new row of files stands in the place of the old one -/
theorem RdAt.newRow {w w7 : World} {gx : Nat} {v v7 : Value} {R R7 : List RF} {room short fuse : Int} (h : RdAt w gx v R room short fuse) (hb : Below w.heap.size w w7)
    (ho : Own w7 115 3 v7 R7.length (rfs R7)) (hv : ∀ g, v7.ownBlock = some g → w.heap.size ≤ g) (hr : ∀ c ∈ R7, c ∈ R ∨ Own w7 5 1 c.v c.b.length (bys c.b)) :
    RdAt (w7.setCell ⟨gx, 0, none⟩ v7) gx v7 R7 room short fuse ∧ Kb w (w7.setCell ⟨gx, 0, none⟩ v7) [gx] := by
  have hk : Kb w7 (w7.setCell ⟨gx, 0, none⟩ v7) [gx] := (Kb.refl w7 _).setCell (by simp) _
  have hbx := h.blk.below hb h.blk.lt
  refine ⟨⟨hbx.set_ 0 v7, hk.own ho fun g hg => by simpa using own_block_ne ho hbx (by decide) g hg, fun c hc => ?_⟩, (Kb.of_below hb _).setCell (by simp) _⟩
  have h1 : Own w7 5 1 c.v c.b.length (bys c.b) := (hr c hc).elim (fun hc => (h.rows c hc).below hb fun g hg => (h.rows c hc).block_lt hg) id
  exact hk.own h1 fun g hg => by simpa using own_block_ne h1 hbx (by decide) g hg
def keepD (s : List UInt8) (R : List RF) : List RF := R.filter fun c => !(c.k.data.toList == s)
theorem keepD_len (s : List UInt8) (R : List RF) : (keepD s R).length ≤ R.length := List.length_filter_le _ _
theorem keepD_snoc (s : List UInt8) (R : List RF) (c : RF) : keepD s (R ++ [c]) = if c.k.data.toList = s then keepD s R else keepD s R ++ [c] := by
  unfold keepD
  rw [List.filter_append]
  by_cases h : c.k.data.toList = s
  · rw [if_pos h, List.filter_cons_of_neg (by rw [h]; simp), List.filter_nil, List.append_nil]
  · rw [if_neg h, List.filter_cons_of_pos (by rw [beq_eq_false_iff_ne.2 h]; rfl), List.filter_nil]
theorem take_at {α : Type} {R : List α} {k : Nat} {c : α} (h : R[k]? = some c) : R.take (k + 1) = R.take k ++ [c] := by
  rw [List.take_add_one, h]
  rfl
section
variable {w w' : World} {gx : Nat} {v : Value} {R : List RF} {room short fuse : Int}
set_option maxHeartbeats 2000000 in
theorem rdrop_calls (hR : RdAt w gx v R room short fuse) (s : ByteArray) (hl : R.length < 1000000) :
    Calls Tryz.prog 72 #[.pointer (some ⟨gx, 0, none⟩), .string s] w fun e w' => e = .returned (.tuple #[]) ∧ ∃ v', RdAt w' gx v' (keepD s.data.toList R) room short fuse ∧ Kb w w' [gx] ∧ ∀ g, v'.ownBlock = some g → w.heap.size ≤ g := by
  obtain ⟨i0, hi, hz0, hz1, hz2⟩ := info_parts info_rf
  obtain ⟨N, hN⟩ : ∃ N, N = R.length := ⟨_, rfl⟩
  have ho := hR.own
  have q0 : w.cell? ⟨gx, 0, none⟩ = some v := hR.blk.cell 0
  rw [← hN] at ho hl
  obtain ⟨A, c, hv, hrd, hac, hcm, _⟩ := ho.form
  rw [hv] at q0
  have HRD := Shut.mk hrd
  have HN := Shut.mk hN
  have HR := Shut.mk hR
  unfold maxLen at hcm
  clear hR ho hrd hN hv
  go_enter Tryz.func72, Tryz.ntmps72
  go_wp2_with fail
  go_loopw [4, 12] (fun u i wr => ∃ k : Nat, k ≤ N ∧ i = .int .i64 k ∧ Own wr 115 3 u (keepD s.data.toList (R.take k)).length (rfs (keepD s.data.toList (R.take k))) ∧ (∀ g, u.ownBlock = some g → w.heap.size ≤ g) ∧ Below w.heap.size w wr) (fun _ i _ => N - (intOf i).toNat)
  case atStart => exact ⟨0, Nat.zero_le _, rfl, Own.nil _ _ _, fun g hg => (by cases hg), Below.refl _ _⟩
  case round =>
    obtain ⟨k, hk, rfl, hou, hnew, hbr⟩ := hrel
    have HBR := Shut.mk hbr
    have HNEW := Shut.mk hnew
    obtain ⟨M, hM⟩ : ∃ M, M = (keepD s.data.toList (R.take k)).length := ⟨_, rfl⟩
    have hMk : M ≤ k := by rw [hM]; exact Nat.le_trans (keepD_len _ _) (by rw [List.length_take]; omega)
    rw [← hM] at hou
    have HM := Shut.mk hM
    obtain ⟨Au, cu, hu, _⟩ := hou.form
    subst hu
    have HOU := Shut.mk hou
    clear hou hnew hM
    by_cases hlt : k < N
    · obtain ⟨cc, hcc⟩ : ∃ cc, R[k]? = some cc := ⟨R[k]'(by rw [← HN.out]; exact hlt), List.getElem?_eq_getElem _⟩
      obtain ⟨ad, rfl, d0, d1, d2⟩ := rf_cells HRD.out hcc hbr
      have hkI : (k : Int) < (N : Int) := by omega
      have hsz := HBR.out.size
      have HBA := Shut.mk (HBR.out.alloc HBR.out.size cc.obj)
      by_cases hid : cc.k.data.toList = s.data.toList
      · have hq0 : (cc.k.toList == s.toList) = true := by rw [str_eq, decide_eq_true hid]
        have HKE := Shut.mk (show keepD s.data.toList (R.take (k + 1)) = keepD s.data.toList (R.take k) by
          rw [take_at hcc, keepD_snoc, if_pos hid])
        have HOA := Shut.mk (HOU.out.alloc cc.obj)
        clear hcc hid
        go_wp2_with fail
        go_roundw
        case rel => exact ⟨k + 1, by omega, by go_num, by rw [HKE.out, ← HM.out]; exact HOA.out, HNEW.out, HBA.out⟩
        case measure => simp [intOf]; omega
      · have hq0 : (cc.k.toList == s.toList) = false := by rw [str_eq, decide_eq_false hid]
        have HKE := Shut.mk (show keepD s.data.toList (R.take (k + 1)) = keepD s.data.toList (R.take k) ++ [cc] by
          rw [take_at hcc, keepD_snoc, if_neg hid])
        have hoa := (HOU.out.alloc cc.obj).alloc cc.obj
        have hra : Rd ((wr.alloc cc.obj).alloc cc.obj) (some ⟨(wr.alloc cc.obj).heap.size, 0, none⟩) [.string cc.k, .slice cc.A cc.b.length cc.cp, .int .i64 (cc.syn : Int)] := rd_new (wr.alloc cc.obj) _ _
        rw [World.size_alloc] at hra
        have hba := HBA.out.alloc (by rw [World.size_alloc]; omega) cc.obj
        clear hcc hid
        go_wp2_with (
          at_builtin
          refine wpList_append _ rfl _ _ _ rfl 115 i0 _ 3 48 Tryz.underlying109 hi hz0 hz1 hz2 rfl (by decide) _ _ _ rfl hoa _ 1 1 _ rfl rfl hra (by simp [Value.oneCell']) (by simp only [maxLen]; omega) (by omega) ?_
          intro v4 w4 hap)
        case roundEnd =>
          refine ⟨⟨k + 1, by omega, by go_num, hap.own.cast (by rw [HKE.out, List.length_append, ← HM.out]; rfl) (by rw [HKE.out, rfs_append]; rfl), fun g hg => ?_, hba.grown hap.grown hba.size (fun r hr => HNEW.out r hr)⟩, by simp [intOf]; omega⟩
          rcases hap.lies with h | h
          · exact HNEW.out g (h ▸ hg)
          · rw [h] at hg
            injection hg with hg
            rw [← hg]
            exact hba.size
    · obtain rfl : k = N := by omega
      have hkI : ¬ (k : Int) < (k : Int) := by omega
      have hf := (HR.out.blk.below hbr HR.out.blk.lt).free 0
      have HFR := Shut.mk (HR.out.newRow HBR.out (R7 := keepD s.data.toList R) (v7 := .slice Au M cu) (by
        have h9 := HOU.out
        have e : R.take k = R := by rw [HN.out, List.take_length]
        rw [e] at h9
        exact h9.cast (by rw [HM.out, e]) rfl) HNEW.out (fun c hc => .inl (List.mem_filter.1 hc).1))
      have qq : wr.cell? ⟨gx, 0, none⟩ = some (.slice A k c) := (hbr.cell (World.block_lt_of_cell? w _ q0)).trans q0
      clear hbr
      go_wp2_with fail
      go_end0
      exact ⟨rfl, _, HFR.out.1, HFR.out.2, HNEW.out⟩
end
end Go.Proofs.YtmlfeljhojmbbaaGreatDoor

namespace Go.Proofs.YtmlfeljhojmbbaaGreatDoor
open Go.RowKit Go.Maps
set_option linter.unusedSimpArgs false
set_option linter.unusedVariables false
set_option maxRecDepth 100000

def gtK (a b : ByteArray) : Bool := !(Op.bytesLess a.toList b.toList || a.toList == b.toList)
def addStep (x : RF) (s : List RF × Bool) (f : RF) : List RF × Bool := if !s.2 && gtK f.k x.k then (s.1 ++ [x] ++ [f], true) else (s.1 ++ [f], s.2)
def addFold (x : RF) (R : List RF) : List RF × Bool := R.foldl (addStep x) ([], false)
def addD (x : RF) (R : List RF) : List RF := if (addFold x R).2 then (addFold x R).1 else (addFold x R).1 ++ [x]
theorem addFold_snoc (x : RF) (R : List RF) (f : RF) : addFold x (R ++ [f]) = addStep x (addFold x R) f := by
  unfold addFold
  rw [List.foldl_append]
  rfl
def insD (x : RF) : List RF → List RF
  | [] => [x]
  | f :: r => if gtK f.k x.k then x :: f :: r else f :: insD x r
theorem fold_true (x : RF) (R : List RF) : ∀ acc, R.foldl (addStep x) (acc, true) = (acc ++ R, true) := by
  induction R with
  | nil => intro acc; simp
  | cons f r ih =>
    intro acc
    rw [List.foldl_cons]
    have e : addStep x (acc, true) f = (acc ++ [f], true) := by simp [addStep]
    rw [e, ih]
    simp
theorem fold_false (x : RF) (R : List RF) : ∀ acc, ((R.foldl (addStep x) (acc, false)).2 = true ∧ (R.foldl (addStep x) (acc, false)).1 = acc ++ insD x R) ∨ ((R.foldl (addStep x) (acc, false)).2 = false ∧ (R.foldl (addStep x) (acc, false)).1 = acc ++ R ∧ insD x R = R ++ [x]) := by
  induction R with
  | nil => intro acc; exact .inr ⟨rfl, by simp, rfl⟩
  | cons f r ih =>
    intro acc
    rw [List.foldl_cons]
    by_cases h : gtK f.k x.k = true
    · have e : addStep x (acc, false) f = (acc ++ [x] ++ [f], true) := by simp [addStep, h]
      rw [e, fold_true]
      exact .inl ⟨rfl, by simp [insD, h]⟩
    · have e : addStep x (acc, false) f = (acc ++ [f], false) := by simp [addStep, h]
      rw [e]
      rcases ih (acc ++ [f]) with ⟨h1, h2⟩ | ⟨h1, h2, h3⟩
      · exact .inl ⟨h1, by rw [h2]; simp [insD, h]⟩
      · exact .inr ⟨h1, by rw [h2]; simp, by simp [insD, h, h3]⟩
theorem addD_ins (x : RF) (R : List RF) : addD x R = insD x R := by
  unfold addD addFold
  rcases fold_false x R [] with ⟨h1, h2⟩ | ⟨h1, h2, h3⟩
  · rw [h1, if_pos rfl, h2]
    rfl
  · rw [h1, if_neg (by simp), h2, h3]
    rfl
theorem insD_perm (x : RF) (R : List RF) : (insD x R).Perm (x :: R) := by
  induction R with
  | nil => exact List.Perm.refl _
  | cons f r ih =>
    unfold insD
    split
    · exact List.Perm.refl _
    · exact (ih.cons f).trans (List.Perm.swap x f r)
theorem addFold_len (x : RF) (R : List RF) : (addFold x R).1.length ≤ R.length + 1 := by
  unfold addFold
  rcases fold_false x R [] with ⟨h1, h2⟩ | ⟨h1, h2, h3⟩
  · rw [h2, List.nil_append, (insD_perm x R).length_eq]
    simp
  · rw [h2]
    simp
section
variable {w w' : World} {gx : Nat} {v : Value} {R : List RF} {room short fuse : Int}
set_option maxHeartbeats 4000000 in
theorem radd_calls (hR : RdAt w gx v R room short fuse) (x : RF) (hx : Own w 5 1 x.v x.b.length (bys x.b)) (hl : R.length < 1000000) :
    Calls Tryz.prog 71 #[.pointer (some ⟨gx, 0, none⟩), .agg #[.string x.k, .slice x.A x.b.length x.cp, .int .i64 (x.syn : Int)]] w fun e w' => e = .returned (.tuple #[]) ∧ ∃ v', RdAt w' gx v' (insD x R) room short fuse ∧ Kb w w' [gx] ∧ ∀ g, v'.ownBlock = some g → w.heap.size ≤ g := by
  obtain ⟨i0, hi, hz0, hz1, hz2⟩ := info_parts info_rf
  obtain ⟨N, hN⟩ : ∃ N, N = R.length := ⟨_, rfl⟩
  have ho := hR.own
  have q0 : w.cell? ⟨gx, 0, none⟩ = some v := hR.blk.cell 0
  rw [← hN] at ho hl
  obtain ⟨A, c, hv, hrd, hac, hcm, _⟩ := ho.form
  rw [hv] at q0
  have HRD := Shut.mk hrd
  have HN := Shut.mk hN
  have HR := Shut.mk hR
  have HX := Shut.mk hx
  unfold maxLen at hcm
  have hbx : Below w.heap.size w (w.alloc x.obj) := (Below.refl _ w).alloc (Nat.le_refl _) x.obj
  have qx : (w.alloc x.obj).cell? ⟨gx, 0, none⟩ = some (.slice A N c) := (World.cell?_alloc_lt w _ _ (World.block_lt_of_cell? w _ q0)).trans q0
  have HXB := Shut.mk (Blk.new w 115 #[.string x.k, .slice x.A x.b.length x.cp, .int .i64 (x.syn : Int)])
  have HB0 := Shut.mk hbx
  clear hR ho hrd hN hv hx q0 hbx
  go_enter Tryz.func71, Tryz.ntmps71
  go_wp2_with fail
  obtain ⟨W0, hW0⟩ : ∃ W0, W0 = w.alloc x.obj := ⟨_, rfl⟩
  rw [← hW0] at qx HXB HB0
  go_loopw [4, 5, 13] (fun u p i wr => ∃ k : Nat, k ≤ N ∧ i = .int .i64 k ∧ p = .bool (addFold x (R.take k)).2 ∧ Own wr 115 3 u (addFold x (R.take k)).1.length (rfs (addFold x (R.take k)).1) ∧ (∀ g, u.ownBlock = some g → W0.heap.size ≤ g) ∧ Below W0.heap.size W0 wr) (fun _ _ i _ => N - (intOf i).toNat)
  case atStart => exact ⟨0, Nat.zero_le _, rfl, rfl, Own.nil _ _ _, fun g hg => (by cases hg), by rw [hW0]; exact Below.refl _ _⟩
  case round =>
    obtain ⟨k, hk, rfl, rfl, hou, hnew, hbr⟩ := hrel
    have HBR := Shut.mk hbr
    have HNEW := Shut.mk hnew
    obtain ⟨M, hM⟩ : ∃ M, M = (addFold x (R.take k)).1.length := ⟨_, rfl⟩
    have hMk : M ≤ k + 1 := by rw [hM]; exact Nat.le_trans (addFold_len _ _) (by rw [List.length_take]; omega)
    rw [← hM] at hou
    have HM := Shut.mk hM
    obtain ⟨Au, cu, hu, _⟩ := hou.form
    subst hu
    have HOU := Shut.mk hou
    obtain ⟨pb, hpb⟩ : ∃ pb, pb = (addFold x (R.take k)).2 := ⟨_, rfl⟩
    rw [← hpb]
    have HPB := Shut.mk hpb
    have hs0 : W0.heap.size = w.heap.size + 1 := by rw [hW0]; simp
    have hsz := HBR.out.size
    have HXr := Shut.mk ((HXB.out).below hbr (by rw [hs0]; omega))
    have x0 : wr.cell? ⟨w.heap.size, 0, none⟩ = some (.string x.k) := HXr.out.cell 0
    have x1 : wr.cell? ⟨w.heap.size, 1, none⟩ = some (.slice x.A x.b.length x.cp) := HXr.out.cell 1
    have x2 : wr.cell? ⟨w.heap.size, 2, none⟩ = some (.int .i64 (x.syn : Int)) := HXr.out.cell 2
    clear hou hnew hM hpb
    by_cases hlt : k < N
    · obtain ⟨cc, hcc⟩ : ∃ cc, R[k]? = some cc := ⟨R[k]'(by rw [← HN.out]; exact hlt), List.getElem?_eq_getElem _⟩
      obtain ⟨ad, rfl, d0, d1, d2⟩ := rf_cells HRD.out hcc (HB0.out.trans (hbr.mono (by rw [hs0]; omega)))
      have hkI : (k : Int) < (N : Int) := by omega
      have HBA := Shut.mk (HBR.out.alloc HBR.out.size cc.obj)
      have HST := Shut.mk (show addFold x (R.take (k + 1)) = addStep x (addFold x (R.take k)) cc by rw [take_at hcc, addFold_snoc])
      by_cases hgo : (!pb && gtK cc.k x.k) = true
      · obtain ⟨hp0, hg0⟩ : pb = false ∧ gtK cc.k x.k = true := by simpa using hgo
        have hg1 : (Op.bytesLess cc.k.toList x.k.toList || cc.k.toList == x.k.toList) = false := by
          unfold gtK at hg0
          simpa using hg0
        have HS2 := Shut.mk (show addFold x (R.take (k + 1)) = ((addFold x (R.take k)).1 ++ [x] ++ [cc], true) by
          rw [HST.out]; unfold addStep; rw [← HPB.out, hp0, hg0]; rfl)
        have hxa := HXr.out.alloc cc.obj
        have y0 : (wr.alloc cc.obj).cell? ⟨w.heap.size, 0, none⟩ = some (.string x.k) := hxa.cell 0
        have y1 : (wr.alloc cc.obj).cell? ⟨w.heap.size, 1, none⟩ = some (.slice x.A x.b.length x.cp) := hxa.cell 1
        have y2 : (wr.alloc cc.obj).cell? ⟨w.heap.size, 2, none⟩ = some (.int .i64 (x.syn : Int)) := hxa.cell 2
        have hoa := (HOU.out.alloc cc.obj).alloc x.obj
        have hra : Rd ((wr.alloc cc.obj).alloc x.obj) (some ⟨(wr.alloc cc.obj).heap.size, 0, none⟩) [.string x.k, .slice x.A x.b.length x.cp, .int .i64 (x.syn : Int)] := rd_new (wr.alloc cc.obj) _ _
        rw [World.size_alloc] at hra
        have hba := HBA.out.alloc (by rw [World.size_alloc]; omega) x.obj
        have HCB := Shut.mk ((Blk.new wr 115 #[.string cc.k, .slice cc.A cc.b.length cc.cp, .int .i64 (cc.syn : Int)]).alloc x.obj)
        subst hp0
        clear hcc hgo hg0 hxa
        go_wp2_with (first
          | (at_builtin
             refine wpList_append _ rfl _ _ _ rfl 115 i0 _ 3 48 Tryz.underlying109 hi hz0 hz1 hz2 rfl (by decide) _ _ _ rfl hoa _ 1 1 _ rfl rfl hra (by simp [Value.oneCell']) (by simp only [maxLen]; omega) (by omega) ?_
             intro v4 w4 hap
             obtain ⟨A4, c4, hv4, _⟩ := hap.own.form
             subst hv4
             have HO4 := Shut.mk hap.own
             have hb4 := hba.grown hap.grown hba.size (fun r hr => HNEW.out r hr)
             have HB4 := Shut.mk hb4
             have hn4 := new_append hba.size HNEW.out hap.lies
             have HN4 := Shut.mk hn4
             have hcb := hap.grown.block _ HCB.out.lt (fun e => by
               have := HOU.out.block_lt e.symm
               omega)
             have hcb4 : Blk w4 wr.heap.size 115 #[.string cc.k, .slice cc.A cc.b.length cc.cp, .int .i64 (cc.syn : Int)] := hcb.trans HCB.out
             have z0 : w4.cell? ⟨wr.heap.size, 0, none⟩ = some (.string cc.k) := hcb4.cell 0
             have z1 : w4.cell? ⟨wr.heap.size, 1, none⟩ = some (.slice cc.A cc.b.length cc.cp) := hcb4.cell 1
             have z2 : w4.cell? ⟨wr.heap.size, 2, none⟩ = some (.int .i64 (cc.syn : Int)) := hcb4.cell 2
             have hoa2 := HO4.out.alloc cc.obj
             have hra2 : Rd (w4.alloc cc.obj) (some ⟨w4.heap.size, 0, none⟩) [.string cc.k, .slice cc.A cc.b.length cc.cp, .int .i64 (cc.syn : Int)] := rd_new w4 _ _
             have HBA2 := Shut.mk (hb4.alloc hb4.size cc.obj)
             clear hap hb4 hn4 hcb hcb4)
          | (at_builtin
             refine wpList_append _ rfl _ _ _ rfl 115 i0 _ 3 48 Tryz.underlying109 hi hz0 hz1 hz2 rfl (by decide) _ _ _ rfl hoa2 _ 1 1 _ rfl rfl hra2 (by simp [Value.oneCell']) (by simp only [maxLen]; omega) (by omega) ?_
             intro v5 w5 hap5))
        case roundEnd =>
          refine ⟨⟨k + 1, by omega, by go_num, by rw [HS2.out], by rw [HS2.out]; exact hap5.own.cast (by rw [List.length_append, List.length_append, ← HM.out]; rfl) (by rw [rfs_append, rfs_append]; rfl), new_append HBA2.out.size HN4.out hap5.lies, HBA2.out.grown hap5.grown HBA2.out.size (fun r hr => HN4.out r hr)⟩, by simp [intOf]; omega⟩
      · have HS2 := Shut.mk (show addFold x (R.take (k + 1)) = ((addFold x (R.take k)).1 ++ [cc], (addFold x (R.take k)).2) by
          rw [HST.out]; unfold addStep; rw [← HPB.out, if_neg hgo])
        have hoa := (HOU.out.alloc cc.obj).alloc cc.obj
        have hra : Rd ((wr.alloc cc.obj).alloc cc.obj) (some ⟨(wr.alloc cc.obj).heap.size, 0, none⟩) [.string cc.k, .slice cc.A cc.b.length cc.cp, .int .i64 (cc.syn : Int)] := rd_new (wr.alloc cc.obj) _ _
        rw [World.size_alloc] at hra
        have hba := HBA.out.alloc (by rw [World.size_alloc]; omega) cc.obj
        have hxa := HXr.out.alloc cc.obj
        have y0 : (wr.alloc cc.obj).cell? ⟨w.heap.size, 0, none⟩ = some (.string x.k) := hxa.cell 0
        have hcase : pb = true ∨ (pb = false ∧ (Op.bytesLess cc.k.toList x.k.toList || cc.k.toList == x.k.toList) = true) := by
          cases pb with
          | true => exact .inl rfl
          | false =>
            refine .inr ⟨rfl, ?_⟩
            cases hb : (Op.bytesLess cc.k.toList x.k.toList || cc.k.toList == x.k.toList) with
            | true => rfl
            | false =>
              exfalso
              apply hgo
              unfold gtK
              rw [hb]
              rfl
        clear hcc hgo hxa
        rcases hcase with rfl | ⟨rfl, hg1⟩
        · go_wp2_with (
            at_builtin
            refine wpList_append _ rfl _ _ _ rfl 115 i0 _ 3 48 Tryz.underlying109 hi hz0 hz1 hz2 rfl (by decide) _ _ _ rfl hoa _ 1 1 _ rfl rfl hra (by simp [Value.oneCell']) (by simp only [maxLen]; omega) (by omega) ?_
            intro v4 w4 hap)
          case roundEnd =>
            refine ⟨⟨k + 1, by omega, by go_num, by rw [HS2.out, ← HPB.out], by rw [HS2.out]; exact hap.own.cast (by rw [List.length_append, ← HM.out]; rfl) (by rw [rfs_append]; rfl), new_append hba.size HNEW.out hap.lies, hba.grown hap.grown hba.size (fun r hr => HNEW.out r hr)⟩, by simp [intOf]; omega⟩
        · go_wp2_with (
            at_builtin
            refine wpList_append _ rfl _ _ _ rfl 115 i0 _ 3 48 Tryz.underlying109 hi hz0 hz1 hz2 rfl (by decide) _ _ _ rfl hoa _ 1 1 _ rfl rfl hra (by simp [Value.oneCell']) (by simp only [maxLen]; omega) (by omega) ?_
            intro v4 w4 hap)
          case roundEnd =>
            refine ⟨⟨k + 1, by omega, by go_num, by rw [HS2.out, ← HPB.out], by rw [HS2.out]; exact hap.own.cast (by rw [List.length_append, ← HM.out]; rfl) (by rw [rfs_append]; rfl), new_append hba.size HNEW.out hap.lies, hba.grown hap.grown hba.size (fun r hr => HNEW.out r hr)⟩, by simp [intOf]; omega⟩
    · obtain rfl : k = N := by omega
      have hkI : ¬ (k : Int) < (k : Int) := by omega
      have HT := Shut.mk (show R.take k = R by rw [HN.out, List.take_length])
      have hbw : Below w.heap.size w wr := HB0.out.trans (hbr.mono (by rw [hs0]; omega))
      have HBW := Shut.mk hbw
      have hbx := HR.out.blk.below hbw HR.out.blk.lt
      have hf := hbx.free 0
      have qq : wr.cell? ⟨gx, 0, none⟩ = some (.slice A k c) := (hbr.cell (World.block_lt_of_cell? W0 _ qx)).trans qx
      have HRX := Shut.mk (HX.out.below hbw fun g hg => HX.out.block_lt hg)
      have HD := Shut.mk (addD_ins x R)
      have hgx := HR.out.blk.lt
      cases pb with
      | true =>
        have HS2 := Shut.mk (show insD x R = (addFold x (R.take k)).1 by
          rw [HT.out, ← HD.out]; unfold addD; rw [← HT.out, ← HPB.out, if_pos rfl])
        have HFR := Shut.mk (HR.out.newRow HBW.out (R7 := insD x R) (v7 := .slice Au M cu) (by
          rw [HS2.out]
          exact HOU.out.cast HM.out rfl) (fun g hg => by have := HNEW.out g hg; omega) (fun c hc => by
          rcases List.mem_cons.1 ((insD_perm x R).mem_iff.1 hc) with rfl | hc
          · exact .inr HRX.out
          · exact .inl hc))
        clear hbr hbw hbx
        go_wp2_with fail
        go_end0
        exact ⟨rfl, _, HFR.out.1, HFR.out.2, fun g hg => by have := HNEW.out g hg; omega⟩
      | false =>
        have HS2 := Shut.mk (show insD x R = (addFold x (R.take k)).1 ++ [x] by
          rw [HT.out, ← HD.out]; unfold addD; rw [← HT.out, ← HPB.out, if_neg (by simp)])
        have hoa := HOU.out.alloc x.obj
        have hra : Rd (wr.alloc x.obj) (some ⟨wr.heap.size, 0, none⟩) [.string x.k, .slice x.A x.b.length x.cp, .int .i64 (x.syn : Int)] := rd_new wr _ _
        have hba := HBR.out.alloc HBR.out.size x.obj
        clear hbr hbw
        go_wp2_with (
          at_builtin
          refine wpList_append _ rfl _ _ _ rfl 115 i0 _ 3 48 Tryz.underlying109 hi hz0 hz1 hz2 rfl (by decide) _ _ _ rfl hoa _ 1 1 _ rfl rfl hra (by simp [Value.oneCell']) (by simp only [maxLen]; omega) (by omega) ?_
          intro v4 w4 hap
          obtain ⟨A4, c4, hv4, _⟩ := hap.own.form
          subst hv4
          have hb4 := hba.grown hap.grown hba.size (fun r hr => HNEW.out r hr)
          have hbw4 : Below w.heap.size w w4 := HB0.out.trans (hb4.mono (by rw [hs0]; omega))
          have hn4 := new_append hba.size HNEW.out hap.lies
          have hbx4 := HR.out.blk.below hbw4 hgx
          have q4 : w4.cell? ⟨gx, 0, none⟩ = some (.slice A k c) := (hb4.cell (World.block_lt_of_cell? W0 _ qx)).trans qx
          have hf4 := hbx4.free 0
          have HFR := Shut.mk (HR.out.newRow hbw4 (R7 := insD x R) (v7 := .slice A4 (M + 1) c4) (by
            rw [HS2.out]
            exact hap.own.cast (by rw [List.length_append, ← HM.out]; rfl) (by rw [rfs_append]; rfl)) (fun g hg => by have := hn4 g hg; omega) (fun c hc => by
            rcases List.mem_cons.1 ((insD_perm x R).mem_iff.1 hc) with rfl | hc
            · exact .inr (HX.out.below hbw4 fun g hg => HX.out.block_lt hg)
            · exact .inl hc))
          have HN4 := Shut.mk hn4
          clear hap hb4 hbw4 hn4 hbx4)
        go_end0
        exact ⟨rfl, _, HFR.out.1, HFR.out.2, fun g hg => by have := HN4.out g hg; omega⟩
end
end Go.Proofs.YtmlfeljhojmbbaaGreatDoor

namespace Go.Proofs.YtmlfeljhojmbbaaGreatDoor
open Go.RowKit Go.Maps
set_option linter.unusedSimpArgs false
set_option linter.unusedVariables false
set_option maxRecDepth 100000

def insF (x : Fl) : List Fl → List Fl
  | [] => [x]
  | f :: r => if x.1 < f.1 then x :: f :: r else f :: insF x r
theorem insF_perm (x : Fl) (T : List Fl) : (insF x T).Perm (x :: T) := by
  induction T with
  | nil => exact List.Perm.refl _
  | cons f r ih =>
    unfold insF
    split
    · exact List.Perm.refl _
    · exact (ih.cons f).trans (List.Perm.swap x f r)
theorem less_eq : ∀ x y : List UInt8, Op.bytesLess x y = decide (x < y)
  | [], [] => by simp [Op.bytesLess]
  | _ :: _, [] => by simp [Op.bytesLess]
  | [], _ :: _ => by simp [Op.bytesLess]
  | a :: x, b :: y => by
    have h := less_eq x y
    rw [Bool.eq_iff_iff]
    simp [Op.bytesLess, h, List.cons_lt_cons_iff]
theorem gtK_lt (a b : ByteArray) : gtK a b = decide (b.data.toList < a.data.toList) := by
  unfold gtK
  rw [Lib.toList_data, Lib.toList_data, less_eq]
  by_cases h : b.data.toList < a.data.toList
  · rw [decide_eq_true h, decide_eq_false (fun h2 => List.lt_asymm h h2)]
    have : a.data.toList ≠ b.data.toList := fun e => List.lt_irrefl _ (e ▸ h)
    simp only [Bool.false_or, beq_eq_false_iff_ne.2 this, Bool.not_false]
  · rw [decide_eq_false h]
    by_cases h2 : a.data.toList = b.data.toList
    · rw [h2]
      simp
    · have h3 : a.data.toList < b.data.toList := by
        by_cases h4 : a.data.toList < b.data.toList
        · exact h4
        · exact absurd (List.le_antisymm (show a.data.toList ≤ b.data.toList from h) (show b.data.toList ≤ a.data.toList from h4)) h2
      rw [decide_eq_true h3]
      rfl
theorem insD_fl (x : RF) (R : List RF) : (insD x R).map RF.fl = insF x.fl (R.map RF.fl) := by
  induction R with
  | nil => rfl
  | cons f r ih =>
    unfold insD
    rw [List.map_cons]
    unfold insF
    have e : (x.fl.1 < f.fl.1) = (x.k.data.toList < f.k.data.toList) := rfl
    rw [gtK_lt]
    by_cases h : x.k.data.toList < f.k.data.toList
    · rw [decide_eq_true h, if_pos rfl, if_pos (by rw [e]; exact h)]
      rfl
    · rw [decide_eq_false h, if_neg (by simp), if_neg (by rw [e]; exact h), List.map_cons, ih]
theorem idx_head (x : RF) (l : List RF) : idxD (x :: l) x.k.data.toList = 0 := by
  unfold idxD
  rw [List.findIdx_cons, beq_self_eq_true]
  rfl
theorem insD_at (x : RF) (R : List RF) (hn : ∀ c ∈ R, c.k.data.toList ≠ x.k.data.toList) : (insD x R)[idxD (insD x R) x.k.data.toList]? = some x := by
  induction R with
  | nil => simp [insD, idxD]
  | cons f r ih =>
    unfold insD
    split
    · rw [idx_head]
      rfl
    · have h1 := hn f (by simp)
      have h2 := ih fun c hc => hn c (by simp [hc])
      unfold idxD at h2 ⊢
      rw [List.findIdx_cons, beq_eq_false_iff_ne.2 h1]
      simpa using h2
theorem insD_set (x y : RF) (hk : y.k.data.toList = x.k.data.toList) (R : List RF) (hn : ∀ c ∈ R, c.k.data.toList ≠ x.k.data.toList) : ((insD x R).set (idxD (insD x R) x.k.data.toList) y).map RF.fl = insF y.fl (R.map RF.fl) := by
  induction R with
  | nil => simp [insD, idxD, insF]
  | cons f r ih =>
    unfold insD
    rw [List.map_cons]
    unfold insF
    have e : (y.fl.1 < f.fl.1) = (x.k.data.toList < f.k.data.toList) := by unfold RF.fl; rw [hk]
    rw [gtK_lt]
    by_cases h : x.k.data.toList < f.k.data.toList
    · rw [decide_eq_true h, if_pos rfl, if_pos (by rw [e]; exact h), idx_head]
      rfl
    · rw [decide_eq_false h, if_neg (by simp), if_neg (by rw [e]; exact h)]
      have h1 := hn f (by simp)
      have h2 := ih fun c hc => hn c (by simp [hc])
      unfold idxD at h2 ⊢
      rw [List.findIdx_cons, beq_eq_false_iff_ne.2 h1]
      simp only [cond_false, List.set_cons_succ, List.map_cons]
      rw [h2]
theorem idx_none {R : List RF} {s : List UInt8} (h : ¬ idxD R s < R.length) : ∀ c ∈ R, c.k.data.toList ≠ s := by
  intro c hc e
  apply h
  unfold idxD
  rw [List.findIdx_lt_length]
  exact ⟨c, hc, by simpa using e⟩
theorem look_none {T : List Fl} {s : List UInt8} : look T s = none ↔ ∀ x ∈ T, x.1 ≠ s := by
  unfold look
  rw [Option.map_eq_none_iff, List.find?_eq_none]
  constructor
  · intro h x hx e
    exact h x hx (by simpa using e)
  · intro h x hx e
    exact h x hx (by simpa using e)
/-- a file at place k is another one, of the same name -/
theorem set_fl {R : List RF} (hp : (R.map RF.fl).Pairwise fun a b => a.1 ≠ b.1) {k : Nat} {c y : RF} (hc : R[k]? = some c) (hk : y.k = c.k) : (R.set k y).map RF.fl = setF (R.map RF.fl) c.k.data.toList y.b y.syn := by
  induction R generalizing k with
  | nil => simp at hc
  | cons a r ih =>
    rw [List.map_cons, List.pairwise_cons] at hp
    unfold setF at ih ⊢
    cases k with
    | zero =>
      simp at hc
      subst hc
      rw [List.set_cons_zero, List.map_cons, List.map_cons, List.map_cons]
      congr 1
      · simp [RF.fl, hk]
      · conv => lhs; rw [← List.map_id (r.map RF.fl)]
        refine List.map_congr_left fun d hd => ?_
        have := hp.1 d hd
        have hne : (d.1 == a.k.data.toList) = false := beq_eq_false_iff_ne.2 fun e => this e.symm
        rw [hne]
        rfl
    | succ k =>
      rw [List.set_cons_succ, List.map_cons, List.map_cons, List.map_cons, ih hp.2 (by simpa using hc)]
      congr 1
      have hm : c ∈ r := List.mem_of_getElem? (by simpa using hc : r[k]? = some c)
      have := hp.1 (RF.fl c) (List.mem_map.2 ⟨c, hm, rfl⟩)
      have hne : ((RF.fl a).1 == c.k.data.toList) = false := beq_eq_false_iff_ne.2 this
      rw [hne]
      rfl
theorem keepD_fl (s : List UInt8) (R : List RF) : (keepD s R).map RF.fl = delF (R.map RF.fl) s := by
  unfold keepD delF
  rw [List.filter_map]
  rfl
theorem usedR_mem {R : List RF} {c : RF} (h : c ∈ R) : c.b.length ≤ usedR R := by
  unfold usedR
  induction R with
  | nil => cases h
  | cons a r ih =>
    rw [List.map_cons, List.sum_cons]
    rcases List.mem_cons.1 h with rfl | h
    · omega
    · have := ih h
      omega
theorem rdB_gx {w w' : World} {gx : Nat} {v : Value} {R : List RF} {room short fuse : Int} {A : Option Addr} {b : List UInt8} (hD : RdAt w gx v R room short fuse) (hr : RdB w A b) (hk : Kb w w' [gx]) : RdB w' A b := by
  intro k hk'
  obtain ⟨ad, e, hc⟩ := hr k hk'
  refine ⟨ad, e, ?_⟩
  have hne : (ad.add k).block ≠ gx := by
    intro e2
    have hb := hD.blk
    obtain ⟨A7, c7, hv7, _⟩ := hD.own.form
    rw [hv7] at hb
    unfold Blk at hb
    unfold World.cell? at hc
    rw [e2, hb] at hc
    simp only at hc
    split at hc
    · cases hc
    · have hm := Array.mem_of_getElem? hc
      simp at hm
  have hlt := World.block_lt_of_cell? w _ hc
  have hbl := hk.block (ad.add k).block hlt (by simpa using hne)
  unfold World.cell? at hc ⊢
  rw [hbl]
  exact hc
theorem Kb.fresh {w w' : World} {L L' : List Nat} (h : Kb w w' L) (hL : ∀ x ∈ L, x ∈ L' ∨ w.heap.size ≤ x) : Kb w w' L' :=
  ⟨h.os, h.tape, h.output, h.size, fun b hb hn => h.block b hb fun e => (hL b e).elim hn fun hle => Nat.lt_irrefl _ (Nat.lt_of_lt_of_le hb hle)⟩
/-- what a call leaves: files of other names, bytes; blocks of the disk's own, or new ones -/
structure AfterD (w w' : World) (gx : Nat) (v : Value) (R : List RF) (T' : List Fl) (room short fuse : Int) : Prop where
  disk : ∃ v' R', RdAt w' gx v' R' room short fuse ∧ R'.map RF.fl = T' ∧ ∀ x ∈ footD gx v' R', x ∈ footD gx v R ∨ w.heap.size ≤ x
  kept : Kb w w' (footD gx v R)
section
variable {w w' : World} {gx : Nat} {v : Value} {R : List RF} {room short fuse : Int}
theorem AfterD.same {L : List Nat} {room' short' fuse' : Int} (h : RdAt w' gx v R room' short' fuse') (hk : Kb w w' L) (hL : ∀ x ∈ L, x ∈ footD gx v R) : AfterD w w' gx v R (R.map RF.fl) room' short' fuse' :=
  ⟨⟨v, R, h, rfl, fun x hx => .inl hx⟩, hk.mono hL⟩
theorem gx_foot : gx ∈ footD gx v R := by simp [footD]
theorem AfterD.num {room' short' fuse' : Int} (h : RdAt w' gx v R room' short' fuse') (hk : Kb w w' [gx]) : AfterD w w' gx v R (R.map RF.fl) room' short' fuse' :=
  AfterD.same h hk (by simp [footD])
/-- one row of bytes is another one -/
theorem AfterD.set {room' short' fuse' : Int} {R' : List RF} {T' : List Fl} {v' : Value} (h : RdAt w' gx v' R' room' short' fuse') (hT : R'.map RF.fl = T') (hk : Kb w w' (footD gx v R)) (hv : ∀ g, v'.ownBlock = some g → v.ownBlock = some g ∨ w.heap.size ≤ g)
    (hr : ∀ c ∈ R', ∀ g, c.v.ownBlock = some g → g ∈ footD gx v R ∨ w.heap.size ≤ g) : AfterD w w' gx v R T' room' short' fuse' :=
  ⟨⟨v', R', h, hT, fun x hx => by
    rcases footD_cases hx with rfl | hx | ⟨c, hc, hx⟩
    · exact .inl gx_foot
    · exact (hv x hx).elim (fun h => .inl (footD_row h)) .inr
    · exact hr c hc x hx⟩, hk⟩
end
end Go.Proofs.YtmlfeljhojmbbaaGreatDoor

namespace Go.Proofs.YtmlfeljhojmbbaaGreatDoor
open Go.RowKit Go.Maps
set_option linter.unusedSimpArgs false
set_option linter.unusedVariables false
set_option maxRecDepth 100000

section
variable {w : World} {gx : Nat} {v : Value} {R : List RF} {room short fuse : Int}
theorem rappend_bad (s : ByteArray) (A : Option Addr) (m c : Nat) (hs : s.size ≤ reach) (hok : nameOk s.data.toList = false) (w : World) :
    Calls Tryz.prog 22 #[.pointer (some ⟨gx, 0, none⟩), .string s, .slice A m c] w fun e w' => e = .returned (.tuple #[.int .i64 0, .int .i64 1]) ∧ w = w' := by
  have HN := Shut.mk (risName_calls s w hs)
  rw [hok] at HN
  clear hok hs
  go_enter Tryz.func22, Tryz.ntmps22
  go_wp2_with fail
  refine HN.out.mono ?_
  rintro e w1 ⟨rfl, rfl⟩
  go_wp2_with fail
  go_ret2
  exact ⟨rfl, rfl⟩
theorem rappend_dead (hR : RdAt w gx v R room short 0) (s : ByteArray) (A : Option Addr) (m c : Nat) (hs : s.size ≤ reach) (hok : nameOk s.data.toList = true) :
    Calls Tryz.prog 22 #[.pointer (some ⟨gx, 0, none⟩), .string s, .slice A m c] w fun e w' => e = .returned (.tuple #[.int .i64 0, .int .i64 62]) ∧ RdAt w' gx v R room short 0 ∧ Kb w w' [gx] := by
  have HN := Shut.mk (risName_calls s w hs)
  have HB := Shut.mk (burn_calls hR (by omega) (by omega))
  rw [hok] at HN
  clear hok hs hR
  go_enter Tryz.func22, Tryz.ntmps22
  go_wp2_with fail
  refine HN.out.mono ?_
  rintro e w1 ⟨rfl, rfl⟩
  go_wp2_with fail
  refine HB.out.mono ?_
  rintro e w1 ⟨rfl, hR1, hk1⟩
  have h0 : decide ((0 : Int) ≠ 0) = false := rfl
  rw [h0]
  have HR1 := Shut.mk hR1
  have HK1 := Shut.mk hk1
  clear hR1 hk1
  go_wp2_with fail
  go_ret2
  exact ⟨rfl, HR1.out, HK1.out⟩
set_option maxHeartbeats 2000000 in
theorem rappend_no1 (hR : RdAt w gx v R room (-1) fuse) (hp : (R.map RF.fl).Pairwise fun a b => a.1 ≠ b.1) (hl : R.length < 900000) (hu : usedR R ≤ 1099511627776) (s : ByteArray) (A : Option Addr) (m c : Nat) (b : List UInt8) (hs : s.size ≤ reach) (f0 : -1 ≤ fuse) (f1 : fuse ≤ 9223372036854775807) (hok : nameOk s.data.toList = true) (hf : fuse ≠ 0)
    (hr : RdB w A b) (hm : b.length = m) (hmc : m ≤ c) (hml : m ≤ reach) (hr1 : 0 ≤ room) (hr2 : room ≤ 1099511627776) {x : RF} (hx : R[idxD R s.data.toList]? = some x) (hA : 1048576 < x.b.length + m) :
    Calls Tryz.prog 22 #[.pointer (some ⟨gx, 0, none⟩), .string s, .slice A m c] w fun e w' => e = .returned (.tuple #[.int .i64 0, .int .i64 4]) ∧ AfterD w w' gx v R (R.map RF.fl) room (-1) (chFuse true fuse) := by
  obtain ⟨i0, hi0, hz0, hz1, hz2⟩ := info_parts info_u8
  have HN := Shut.mk (risName_calls s w hs)
  rw [hok] at HN
  have HB := Shut.mk (burn_calls hR f0 f1)
  rw [decide_eq_true hf] at HB
  generalize chFuse true fuse = fu at HB ⊢
  have HP := Shut.mk hp
  have HX := Shut.mk hx
  have HROW := Shut.mk hR.row_ne
  have HOWN := Shut.mk (fun (c : RF) (hc : c ∈ R) => hR.own_ne hc)
  have HLT := Shut.mk hR.blk.lt
  have HR0 := Shut.mk hr
  have HBM := Shut.mk hm
  have HRK := Shut.mk (fun (w' : World) (h : Kb w w' [gx]) => rdB_gx hR HR0.out h)
  have HLE := Shut.mk (fun c (hc : c ∈ R) => usedR_mem hc)
  unfold reach at hml
  have hi : idxD R s.data.toList < R.length := (List.getElem?_eq_some_iff.1 hx).1
  have hpv : placeV R s.data.toList = (idxD R s.data.toList : Int) := by simp [placeV, hi]
  have hxm := List.mem_of_getElem? hx
  have HXM := Shut.mk hxm
  have hxu := usedR_mem hxm
  have HKX := Shut.mk (show x.k.data.toList = s.data.toList by obtain ⟨c', h1, h2⟩ := rf_at hi; rw [hx] at h1; injection h1 with h1; rw [h1]; exact h2)
  obtain ⟨NX, hNX⟩ : ∃ NX, NX = x.b.length := ⟨_, rfl⟩
  rw [← hNX] at hA hxu
  have HNX := Shut.mk hNX
  obtain ⟨k, hk⟩ : ∃ k, k = idxD R s.data.toList := ⟨_, rfl⟩
  rw [← hk] at hpv hi HX
  clear hxm hNX hk
  have HPV := Shut.mk hpv
  have HRL := Shut.mk (fun (h : R.length < 900000) => h)
  clear hok hs hf hr hm hR hp hx hpv
  go_enter Tryz.func22, Tryz.ntmps22
  go_wp2_with fail
  refine HN.out.mono ?_
  rintro e w1 ⟨rfl, rfl⟩
  go_wp2_with fail
  refine HB.out.mono ?_
  rintro e w2 ⟨rfl, hR2, hk2⟩
  have q2 : w2.cell? ⟨gx, 2, none⟩ = some (.int .i64 (-1)) := hR2.blk.cell 2
  have f2 := hR2.blk.free 2
  have HR3 := Shut.mk (hR2.num 2 (.int .i64 (-1)) (room' := room) (short' := -1) (fuse' := fu) rfl)
  have HK3 := Shut.mk (hk2.setCell (p := ⟨gx, 2, none⟩) (by simp) (.int .i64 (-1)))
  clear hk2 HB HN hR2
  go_wp2_with fail
  generalize w2.setCell ⟨gx, 2, none⟩ (.int .i64 (-1)) = w3 at HR3 HK3 ⊢
  have HPL := Shut.mk (dplace_calls HR3.out s (by omega))
  rw [HPV.out] at HPL
  clear q2 f2
  refine HPL.out.mono ?_
  rintro e w4 ⟨rfl, hb4⟩
  have HR4 := Shut.mk (HR3.out.below hb4)
  have HK4 := Shut.mk (HK3.out.below_ hb4)
  clear hb4 HPL HR3 HK3
  have s1 : w4.cell? ⟨gx, 1, none⟩ = some (.int .i64 room) := HR4.out.blk.cell 1
  have hgx := World.block_lt_of_cell? _ _ s1
  obtain ⟨g, cap, hv, hnc, hcm, hcell⟩ := HR4.out.head (by omega)
  obtain ⟨N, hN⟩ : ∃ N, N = R.length := ⟨_, rfl⟩
  rw [← hN] at hi hl hv hnc
  have HN := Shut.mk hN
  unfold maxLen at hcm
  have c1 : w4.cell? ⟨g, k * 3 + 1, none⟩ = some (.slice x.A NX x.cp) := by rw [HNX.out]; exact hcell (k * 3 + 1) _ (rfs_get HX.out 1 (by omega))
  have c0 : w4.cell? ⟨gx, 0, none⟩ = some (.slice (some ⟨g, 0, none⟩) N cap) := by rw [← hv]; exact HR4.out.blk.cell 0
  have HV := Shut.mk hv
  have hkI : (k : Int) < (N : Int) := by omega
  have hk0 : (k : Int) ≥ 0 := by omega
  have hk0' : ¬ (k : Int) < 0 := by omega
  clear hv hN hcell
  go_wp2_with fail
  have hw1 : IntKind.i64.wrap ((NX : Int) + (m : Int)) = (NX : Int) + (m : Int) := by rw [IntKind.wrap_i64]; omega
  have d1 : decide ((1048576 : Int) < (NX : Int) + (m : Int)) = true := decide_eq_true (by omega)
  go_quiet (fail)
  go_wp2_with fail
  go_ret2
  exact ⟨rfl, AfterD.num (HR4.out.below ⟨rfl, rfl, rfl, Nat.le_refl _, fun _ _ => rfl⟩) (HK4.out.below_ ⟨rfl, rfl, rfl, Nat.le_refl _, fun _ _ => rfl⟩)⟩
set_option maxHeartbeats 2000000 in
theorem rappend_no2 (hR : RdAt w gx v R room (-1) fuse) (hp : (R.map RF.fl).Pairwise fun a b => a.1 ≠ b.1) (hl : R.length < 900000) (hu : usedR R ≤ 1099511627776) (s : ByteArray) (A : Option Addr) (m c : Nat) (b : List UInt8) (hs : s.size ≤ reach) (f0 : -1 ≤ fuse) (f1 : fuse ≤ 9223372036854775807) (hok : nameOk s.data.toList = true) (hf : fuse ≠ 0)
    (hr : RdB w A b) (hm : b.length = m) (hmc : m ≤ c) (hml : m ≤ reach) (hr1 : 0 ≤ room) (hr2 : room ≤ 1099511627776) {x : RF} (hx : R[idxD R s.data.toList]? = some x) (hA : x.b.length + m ≤ 1048576) (hB : room < usedR R + m) :
    Calls Tryz.prog 22 #[.pointer (some ⟨gx, 0, none⟩), .string s, .slice A m c] w fun e w' => e = .returned (.tuple #[.int .i64 0, .int .i64 4]) ∧ AfterD w w' gx v R (R.map RF.fl) room (-1) (chFuse true fuse) := by
  obtain ⟨i0, hi0, hz0, hz1, hz2⟩ := info_parts info_u8
  have HN := Shut.mk (risName_calls s w hs)
  rw [hok] at HN
  have HB := Shut.mk (burn_calls hR f0 f1)
  rw [decide_eq_true hf] at HB
  generalize chFuse true fuse = fu at HB ⊢
  have HP := Shut.mk hp
  have HX := Shut.mk hx
  have HROW := Shut.mk hR.row_ne
  have HOWN := Shut.mk (fun (c : RF) (hc : c ∈ R) => hR.own_ne hc)
  have HLT := Shut.mk hR.blk.lt
  have HR0 := Shut.mk hr
  have HBM := Shut.mk hm
  have HRK := Shut.mk (fun (w' : World) (h : Kb w w' [gx]) => rdB_gx hR HR0.out h)
  have HLE := Shut.mk (fun c (hc : c ∈ R) => usedR_mem hc)
  unfold reach at hml
  have hi : idxD R s.data.toList < R.length := (List.getElem?_eq_some_iff.1 hx).1
  have hpv : placeV R s.data.toList = (idxD R s.data.toList : Int) := by simp [placeV, hi]
  have hxm := List.mem_of_getElem? hx
  have HXM := Shut.mk hxm
  have hxu := usedR_mem hxm
  have HKX := Shut.mk (show x.k.data.toList = s.data.toList by obtain ⟨c', h1, h2⟩ := rf_at hi; rw [hx] at h1; injection h1 with h1; rw [h1]; exact h2)
  obtain ⟨NX, hNX⟩ : ∃ NX, NX = x.b.length := ⟨_, rfl⟩
  rw [← hNX] at hA hxu
  have HNX := Shut.mk hNX
  obtain ⟨k, hk⟩ : ∃ k, k = idxD R s.data.toList := ⟨_, rfl⟩
  rw [← hk] at hpv hi HX
  clear hxm hNX hk
  have HPV := Shut.mk hpv
  have HRL := Shut.mk (fun (h : R.length < 900000) => h)
  clear hok hs hf hr hm hR hp hx hpv
  go_enter Tryz.func22, Tryz.ntmps22
  go_wp2_with fail
  refine HN.out.mono ?_
  rintro e w1 ⟨rfl, rfl⟩
  go_wp2_with fail
  refine HB.out.mono ?_
  rintro e w2 ⟨rfl, hR2, hk2⟩
  have q2 : w2.cell? ⟨gx, 2, none⟩ = some (.int .i64 (-1)) := hR2.blk.cell 2
  have f2 := hR2.blk.free 2
  have HR3 := Shut.mk (hR2.num 2 (.int .i64 (-1)) (room' := room) (short' := -1) (fuse' := fu) rfl)
  have HK3 := Shut.mk (hk2.setCell (p := ⟨gx, 2, none⟩) (by simp) (.int .i64 (-1)))
  clear hk2 HB HN hR2
  go_wp2_with fail
  generalize w2.setCell ⟨gx, 2, none⟩ (.int .i64 (-1)) = w3 at HR3 HK3 ⊢
  have HPL := Shut.mk (dplace_calls HR3.out s (by omega))
  rw [HPV.out] at HPL
  clear q2 f2
  refine HPL.out.mono ?_
  rintro e w4 ⟨rfl, hb4⟩
  have HR4 := Shut.mk (HR3.out.below hb4)
  have HK4 := Shut.mk (HK3.out.below_ hb4)
  clear hb4 HPL HR3 HK3
  have s1 : w4.cell? ⟨gx, 1, none⟩ = some (.int .i64 room) := HR4.out.blk.cell 1
  have hgx := World.block_lt_of_cell? _ _ s1
  obtain ⟨g, cap, hv, hnc, hcm, hcell⟩ := HR4.out.head (by omega)
  obtain ⟨N, hN⟩ : ∃ N, N = R.length := ⟨_, rfl⟩
  rw [← hN] at hi hl hv hnc
  have HN := Shut.mk hN
  unfold maxLen at hcm
  have c1 : w4.cell? ⟨g, k * 3 + 1, none⟩ = some (.slice x.A NX x.cp) := by rw [HNX.out]; exact hcell (k * 3 + 1) _ (rfs_get HX.out 1 (by omega))
  have c0 : w4.cell? ⟨gx, 0, none⟩ = some (.slice (some ⟨g, 0, none⟩) N cap) := by rw [← hv]; exact HR4.out.blk.cell 0
  have HV := Shut.mk hv
  have hkI : (k : Int) < (N : Int) := by omega
  have hk0 : (k : Int) ≥ 0 := by omega
  have hk0' : ¬ (k : Int) < 0 := by omega
  clear hv hN hcell
  go_wp2_with fail
  have hw1 : IntKind.i64.wrap ((NX : Int) + (m : Int)) = (NX : Int) + (m : Int) := by rw [IntKind.wrap_i64]; omega
  have d1 : decide ((1048576 : Int) < (NX : Int) + (m : Int)) = false := decide_eq_false (by omega)
  have HU0 := Shut.mk (rused_calls (w := w4.drew) (HR4.out.below ⟨rfl, rfl, rfl, Nat.le_refl _, fun _ _ => rfl⟩) (by rw [← HN.out]; omega) hu)
  have hw2 : IntKind.i64.wrap ((usedR R : Int) + (m : Int)) = (usedR R : Int) + (m : Int) := by rw [IntKind.wrap_i64]; omega
  have d2 : decide (room < (usedR R : Int) + (m : Int)) = true := decide_eq_true (by omega)
  go_region_held3 (fun w' => w'.cell? ⟨gx, 1, none⟩ = some (.int .i64 room))
    (first | exact s1 | exact t1 | go_keep)
    (first | (go_at_call 70; refine HU0.out.mono ?_; rintro e w5 ⟨rfl, hb5⟩; have t1 := (hb5.cell hgx).trans s1))
  have hb5' := below_of_drew hb5
  have HR5 := Shut.mk (HR4.out.below hb5')
  have HK5 := Shut.mk (HK4.out.below_ hb5')
  clear hb5 HU0
  go_wp2_with fail
  go_ret2
  exact ⟨rfl, AfterD.num HR5.out HK5.out⟩
set_option maxHeartbeats 2000000 in
theorem rappend_no3 (hR : RdAt w gx v R room (-1) fuse) (hp : (R.map RF.fl).Pairwise fun a b => a.1 ≠ b.1) (hl : R.length < 900000) (hu : usedR R ≤ 1099511627776) (s : ByteArray) (A : Option Addr) (m c : Nat) (b : List UInt8) (hs : s.size ≤ reach) (f0 : -1 ≤ fuse) (f1 : fuse ≤ 9223372036854775807) (hok : nameOk s.data.toList = true) (hf : fuse ≠ 0)
    (hr : RdB w A b) (hm : b.length = m) (hmc : m ≤ c) (hml : m ≤ reach) (hr1 : 0 ≤ room) (hr2 : room ≤ 1099511627776) {x : RF} (hx : R[idxD R s.data.toList]? = some x) (hA : x.b.length + m ≤ 1048576) (hB : usedR R + m ≤ room) :
    Calls Tryz.prog 22 #[.pointer (some ⟨gx, 0, none⟩), .string s, .slice A m c] w fun e w' => e = .returned (.tuple #[.int .i64 (m : Int), .int .i64 0]) ∧ AfterD w w' gx v R (setF (R.map RF.fl) s.data.toList (x.b ++ b) x.syn) room (-1) (chFuse true fuse) := by
  obtain ⟨i0, hi0, hz0, hz1, hz2⟩ := info_parts info_u8
  have HN := Shut.mk (risName_calls s w hs)
  rw [hok] at HN
  have HB := Shut.mk (burn_calls hR f0 f1)
  rw [decide_eq_true hf] at HB
  generalize chFuse true fuse = fu at HB ⊢
  have HP := Shut.mk hp
  have HX := Shut.mk hx
  have HROW := Shut.mk hR.row_ne
  have HOWN := Shut.mk (fun (c : RF) (hc : c ∈ R) => hR.own_ne hc)
  have HLT := Shut.mk hR.blk.lt
  have HR0 := Shut.mk hr
  have HBM := Shut.mk hm
  have HRK := Shut.mk (fun (w' : World) (h : Kb w w' [gx]) => rdB_gx hR HR0.out h)
  have HLE := Shut.mk (fun c (hc : c ∈ R) => usedR_mem hc)
  unfold reach at hml
  have hi : idxD R s.data.toList < R.length := (List.getElem?_eq_some_iff.1 hx).1
  have hpv : placeV R s.data.toList = (idxD R s.data.toList : Int) := by simp [placeV, hi]
  have hxm := List.mem_of_getElem? hx
  have HXM := Shut.mk hxm
  have hxu := usedR_mem hxm
  have HKX := Shut.mk (show x.k.data.toList = s.data.toList by obtain ⟨c', h1, h2⟩ := rf_at hi; rw [hx] at h1; injection h1 with h1; rw [h1]; exact h2)
  obtain ⟨NX, hNX⟩ : ∃ NX, NX = x.b.length := ⟨_, rfl⟩
  rw [← hNX] at hA hxu
  have HNX := Shut.mk hNX
  obtain ⟨k, hk⟩ : ∃ k, k = idxD R s.data.toList := ⟨_, rfl⟩
  rw [← hk] at hpv hi HX
  clear hxm hNX hk
  have HPV := Shut.mk hpv
  have HRL := Shut.mk (fun (h : R.length < 900000) => h)
  clear hok hs hf hr hm hR hp hx hpv
  go_enter Tryz.func22, Tryz.ntmps22
  go_wp2_with fail
  refine HN.out.mono ?_
  rintro e w1 ⟨rfl, rfl⟩
  go_wp2_with fail
  refine HB.out.mono ?_
  rintro e w2 ⟨rfl, hR2, hk2⟩
  have q2 : w2.cell? ⟨gx, 2, none⟩ = some (.int .i64 (-1)) := hR2.blk.cell 2
  have f2 := hR2.blk.free 2
  have HR3 := Shut.mk (hR2.num 2 (.int .i64 (-1)) (room' := room) (short' := -1) (fuse' := fu) rfl)
  have HK3 := Shut.mk (hk2.setCell (p := ⟨gx, 2, none⟩) (by simp) (.int .i64 (-1)))
  clear hk2 HB HN hR2
  go_wp2_with fail
  generalize w2.setCell ⟨gx, 2, none⟩ (.int .i64 (-1)) = w3 at HR3 HK3 ⊢
  have HPL := Shut.mk (dplace_calls HR3.out s (by omega))
  rw [HPV.out] at HPL
  clear q2 f2
  refine HPL.out.mono ?_
  rintro e w4 ⟨rfl, hb4⟩
  have HR4 := Shut.mk (HR3.out.below hb4)
  have HK4 := Shut.mk (HK3.out.below_ hb4)
  clear hb4 HPL HR3 HK3
  have s1 : w4.cell? ⟨gx, 1, none⟩ = some (.int .i64 room) := HR4.out.blk.cell 1
  have hgx := World.block_lt_of_cell? _ _ s1
  obtain ⟨g, cap, hv, hnc, hcm, hcell⟩ := HR4.out.head (by omega)
  obtain ⟨N, hN⟩ : ∃ N, N = R.length := ⟨_, rfl⟩
  rw [← hN] at hi hl hv hnc
  have HN := Shut.mk hN
  unfold maxLen at hcm
  have c1 : w4.cell? ⟨g, k * 3 + 1, none⟩ = some (.slice x.A NX x.cp) := by rw [HNX.out]; exact hcell (k * 3 + 1) _ (rfs_get HX.out 1 (by omega))
  have c0 : w4.cell? ⟨gx, 0, none⟩ = some (.slice (some ⟨g, 0, none⟩) N cap) := by rw [← hv]; exact HR4.out.blk.cell 0
  have HV := Shut.mk hv
  have hkI : (k : Int) < (N : Int) := by omega
  have hk0 : (k : Int) ≥ 0 := by omega
  have hk0' : ¬ (k : Int) < 0 := by omega
  clear hv hN hcell
  go_wp2_with fail
  have hw1 : IntKind.i64.wrap ((NX : Int) + (m : Int)) = (NX : Int) + (m : Int) := by rw [IntKind.wrap_i64]; omega
  have d1 : decide ((1048576 : Int) < (NX : Int) + (m : Int)) = false := decide_eq_false (by omega)
  have HU0 := Shut.mk (rused_calls (w := w4.drew) (HR4.out.below ⟨rfl, rfl, rfl, Nat.le_refl _, fun _ _ => rfl⟩) (by rw [← HN.out]; omega) hu)
  have hw2 : IntKind.i64.wrap ((usedR R : Int) + (m : Int)) = (usedR R : Int) + (m : Int) := by rw [IntKind.wrap_i64]; omega
  have d2 : decide (room < (usedR R : Int) + (m : Int)) = false := decide_eq_false (by omega)
  go_region_held3 (fun w' => w'.cell? ⟨gx, 1, none⟩ = some (.int .i64 room))
    (first | exact s1 | exact t1 | go_keep)
    (first | (go_at_call 70; refine HU0.out.mono ?_; rintro e w5 ⟨rfl, hb5⟩; have t1 := (hb5.cell hgx).trans s1))
  have hb5' := below_of_drew hb5
  have HR5 := Shut.mk (HR4.out.below hb5')
  have HK5 := Shut.mk (HK4.out.below_ hb5')
  clear hb5 HU0
  have e0 : w5.cell? ⟨gx, 0, none⟩ = some (.slice (some ⟨g, 0, none⟩) N cap) := (hb5'.cell (World.block_lt_of_cell? _ _ c0)).trans c0
  have e1 : w5.cell? ⟨g, k * 3 + 1, none⟩ = some (.slice x.A NX x.cp) := (hb5'.cell (World.block_lt_of_cell? _ _ c1)).trans c1
  clear hb5' c0 c1 s1 t1 HR4 HK4
  have c0 := e0
  have c1 := e1
  clear e0 e1
  have hgl := World.block_lt_of_cell? _ _ c1
  have hgx7 := World.block_lt_of_cell? _ _ c0
  have HRB := Shut.mk (HRK.out _ HK5.out)
  have hba : Below w5.heap.size w5 (w5.alloc (.cells #[] 5)).drew := by have := (Below.refl _ w5).alloc (Nat.le_refl _) (.cells #[] 5); exact ⟨this.os, this.tape, this.output, this.size, this.block⟩
  have d0 : (w5.alloc (.cells #[] 5)).cell? ⟨gx, 0, none⟩ = some (.slice (some ⟨g, 0, none⟩) N cap) := (World.cell?_alloc_lt w5 _ _ (World.block_lt_of_cell? w5 _ c0)).trans c0
  have d2 : (w5.alloc (.cells #[] 5)).cell? ⟨g, k * 3 + 1, none⟩ = some (.slice x.A NX x.cp) := (World.cell?_alloc_lt w5 _ _ (World.block_lt_of_cell? w5 _ c1)).trans c1
  have HOE := Shut.mk (show Own (w5.alloc (.cells #[] 5)).drew 5 1 (.slice (some ⟨w5.heap.size, 0, none⟩) 0 0) 0 [] from own_empty w5 _ _)
  have HOC := Shut.mk (HR5.out.rows x HXM.out)
  have HRC := Shut.mk (show Rd (w5.alloc (.cells #[] 5)).drew x.A (bys x.b) from by
    have h9 := HOC.out.below hba fun g hg => HOC.out.block_lt hg
    obtain ⟨A9, c9, e9, h8, _⟩ := h9.form
    have : x.A = A9 := by unfold RF.v at e9; injection e9
    rw [this]
    exact h8)
  have HCL := Shut.mk (show (bys x.b).length = NX * 1 by rw [bys_length, HNX.out, Nat.mul_one])
  have HBL := Shut.mk (show (bys b).length = m * 1 by rw [bys_length, HBM.out, Nat.mul_one])
  have HBA := Shut.mk hba
  have HC1 := Shut.mk c1
  have HC0 := Shut.mk c0
  clear hba
  go_wp2_with fail
  go_region_law (first
    | (refine step_append _ (by rfl) _ _ _ (by rfl) 5 i0 _ 1 1 Tryz.underlying27 hi0 hz0 hz1 hz2 rfl (by decide) _ _ _ (by rfl) HOE.out _ NX (x.cp) _ (by rfl) HCL.out HRC.out (bys_one _) (by simp only [maxLen]; omega) (by omega) ?_
       intro v8 w8 hap
       obtain ⟨A8, c8, hv8, _⟩ := hap.own.form
       rw [Nat.zero_add] at hv8
       subst hv8
       have HO8 := Shut.mk (hap.own.cast (Nat.zero_add NX) (List.nil_append _))
       have hb8 : Below w5.heap.size w5 w8 := HBA.out.grown hap.grown (by have := HBA.out.size; exact this) (fun r hr => by cases hr; exact Nat.le_refl _)
       have hl8 : ∀ g', (Value.slice A8 NX c8).ownBlock = some g' → w5.heap.size ≤ g' := fun g' hg' => by
         rcases hap.lies with h | h
         · rw [h] at hg'; cases hg'; exact Nat.le_refl _
         · rw [h] at hg'; injection hg' with hg'; rw [← hg']; exact HBA.out.size
       have e0 : w8.cell? ⟨gx, 0, none⟩ = some (.slice (some ⟨g, 0, none⟩) N cap) := (hb8.cell hgx7).trans HC0.out
       have e2 := (hb8.cell hgl).trans HC1.out
       have hR8 := rd_of_rdB (HRB.out.keep hb8)
       have HR8 := Shut.mk hR8
       have HB8 := Shut.mk hb8
       have HL8 := Shut.mk hl8
       clear hap hb8 hl8 hR8)
    | (refine step_append _ (by rfl) _ _ _ (by rfl) 5 i0 _ 1 1 Tryz.underlying27 hi0 hz0 hz1 hz2 rfl (by decide) _ _ _ (by rfl) HO8.out _ m c _ (by rfl) HBL.out HR8.out (bys_one _) (by simp only [maxLen]; omega) (by omega) ?_
       intro v9 w9 hap
       obtain ⟨A9, c9, hv9, _⟩ := hap.own.form
       skip
       subst hv9
       have HO9 := Shut.mk (hap.own.cast (n' := NX + m) (by rfl) rfl)
       have hb9 : Below w5.heap.size w5 w9 := HB8.out.grown hap.grown HB8.out.size (fun r hr => HL8.out r hr)
       have hl9 : ∀ g', (Value.slice A9 (NX + m) c9).ownBlock = some g' → w5.heap.size ≤ g' := fun g' hg' => by
         rcases hap.lies with h | h
         · rw [h] at hg'; exact HL8.out g' hg'
         · rw [h] at hg'; injection hg' with hg'; rw [← hg']; exact HB8.out.size
       have hRn := HR5.out.below hb9
       have e0 : w9.cell? ⟨gx, 0, none⟩ = some (.slice (some ⟨g, 0, none⟩) N cap) := by rw [← HV.out]; exact hRn.blk.cell 0
       have ef : w9.frozen? ⟨g, k * 3 + 1, none⟩ = false := by
         have := hRn.own
         rw [HV.out] at this
         rw [← HN.out] at this
         exact this.freeAt _
       have e2 := (hb9.cell hgl).trans HC1.out
       have HRN := Shut.mk hRn
       have HB9 := Shut.mk hb9
       have HL9 := Shut.mk hl9
       clear hap hb9 hl9 hRn))
  all_goals (
    have e9 : (Value.slice A9 (NX + m) c9) = .slice A9 (x.b ++ b).length c9 := by rw [List.length_append, HBM.out, HNX.out]; try first | rfl | (simp; done)
    have hT := HRN.out.turnb HX.out HV.out (A := A9) (cp := c9) (b := x.b ++ b) (by rw [← e9]; exact HO9.out.cast (by rw [List.length_append, HBM.out, HNX.out]; try first | rfl | (simp; done)) (bys_append _ _).symm)
    have hK : Kb w (w9.setCell ⟨g, k * 3 + 1, none⟩ (.slice A9 (x.b ++ b).length c9)) (footD gx v R) := ((HK5.out.mono (L' := footD gx v R) (by simp [footD])).below_ HB9.out).setCell (by simp [footD, HV.out, Value.ownBlock]) _
    rw [e9]
    generalize w9.setCell ⟨g, k * 3 + 1, none⟩ (.slice A9 (x.b ++ b).length c9) = w10 at hT hK ⊢
    have HL10 := Shut.mk (e9 ▸ HL9.out)
    have HT := Shut.mk hT
    have HK := Shut.mk hK
    clear hT hK
    go_wp2_with fail
    go_ret2
    refine ⟨rfl, AfterD.set HT.out (by
      have h9 := set_fl HP.out HX.out (y := ⟨x.k, A9, c9, x.b ++ b, x.syn⟩) rfl
      rw [HKX.out] at h9
      exact h9) HK.out (fun g hg => .inl hg) (fun c hc g' hg' => ?_)⟩
    rcases List.mem_or_eq_of_mem_set hc with hc | rfl
    · exact .inl (footD_own hc hg')
    · exact .inr (Nat.le_trans HK5.out.size (HL10.out g' hg')))
set_option maxHeartbeats 2000000 in
theorem rappend_nn1 (hR : RdAt w gx v R room (-1) fuse) (hp : (R.map RF.fl).Pairwise fun a b => a.1 ≠ b.1) (hl : R.length < 900000) (hu : usedR R ≤ 1099511627776) (s : ByteArray) (A : Option Addr) (m c : Nat) (b : List UInt8) (hs : s.size ≤ reach) (f0 : -1 ≤ fuse) (f1 : fuse ≤ 9223372036854775807) (hok : nameOk s.data.toList = true) (hf : fuse ≠ 0)
    (hr : RdB w A b) (hm : b.length = m) (hmc : m ≤ c) (hml : m ≤ reach) (hr1 : 0 ≤ room) (hr2 : room ≤ 1099511627776) (hx : ¬ idxD R s.data.toList < R.length) (hA : 1048576 < 0 + m) :
    Calls Tryz.prog 22 #[.pointer (some ⟨gx, 0, none⟩), .string s, .slice A m c] w fun e w' => e = .returned (.tuple #[.int .i64 0, .int .i64 4]) ∧ AfterD w w' gx v R (R.map RF.fl) room (-1) (chFuse true fuse) := by
  obtain ⟨i0, hi0, hz0, hz1, hz2⟩ := info_parts info_u8
  have HN := Shut.mk (risName_calls s w hs)
  rw [hok] at HN
  have HB := Shut.mk (burn_calls hR f0 f1)
  rw [decide_eq_true hf] at HB
  generalize chFuse true fuse = fu at HB ⊢
  have HP := Shut.mk hp
  have HX := Shut.mk hx
  have HROW := Shut.mk hR.row_ne
  have HOWN := Shut.mk (fun (c : RF) (hc : c ∈ R) => hR.own_ne hc)
  have HLT := Shut.mk hR.blk.lt
  have HR0 := Shut.mk hr
  have HBM := Shut.mk hm
  have HRK := Shut.mk (fun (w' : World) (h : Kb w w' [gx]) => rdB_gx hR HR0.out h)
  have HLE := Shut.mk (fun c (hc : c ∈ R) => usedR_mem hc)
  unfold reach at hml
  have hpv : placeV R s.data.toList = -1 := by simp [placeV, hx]
  have HNO := Shut.mk (idx_none hx)
  have HPV := Shut.mk hpv
  have HRL := Shut.mk (fun (h : R.length < 900000) => h)
  clear hok hs hf hr hm hR hp hx hpv
  go_enter Tryz.func22, Tryz.ntmps22
  go_wp2_with fail
  refine HN.out.mono ?_
  rintro e w1 ⟨rfl, rfl⟩
  go_wp2_with fail
  refine HB.out.mono ?_
  rintro e w2 ⟨rfl, hR2, hk2⟩
  have q2 : w2.cell? ⟨gx, 2, none⟩ = some (.int .i64 (-1)) := hR2.blk.cell 2
  have f2 := hR2.blk.free 2
  have HR3 := Shut.mk (hR2.num 2 (.int .i64 (-1)) (room' := room) (short' := -1) (fuse' := fu) rfl)
  have HK3 := Shut.mk (hk2.setCell (p := ⟨gx, 2, none⟩) (by simp) (.int .i64 (-1)))
  clear hk2 HB HN hR2
  go_wp2_with fail
  generalize w2.setCell ⟨gx, 2, none⟩ (.int .i64 (-1)) = w3 at HR3 HK3 ⊢
  have HPL := Shut.mk (dplace_calls HR3.out s (by omega))
  rw [HPV.out] at HPL
  clear q2 f2
  refine HPL.out.mono ?_
  rintro e w4 ⟨rfl, hb4⟩
  have HR4 := Shut.mk (HR3.out.below hb4)
  have HK4 := Shut.mk (HK3.out.below_ hb4)
  clear hb4 HPL HR3 HK3
  have s1 : w4.cell? ⟨gx, 1, none⟩ = some (.int .i64 room) := HR4.out.blk.cell 1
  have hgx := World.block_lt_of_cell? _ _ s1
  go_wp2_with fail
  have hw1 : IntKind.i64.wrap (m : Int) = (m : Int) := by rw [IntKind.wrap_i64]; omega
  have d1 : decide ((1048576 : Int) < (m : Int)) = true := decide_eq_true (by omega)
  go_quiet (fail)
  go_wp2_with fail
  go_ret2
  exact ⟨rfl, AfterD.num (HR4.out.below ⟨rfl, rfl, rfl, Nat.le_refl _, fun _ _ => rfl⟩) (HK4.out.below_ ⟨rfl, rfl, rfl, Nat.le_refl _, fun _ _ => rfl⟩)⟩
set_option maxHeartbeats 2000000 in
theorem rappend_nn2 (hR : RdAt w gx v R room (-1) fuse) (hp : (R.map RF.fl).Pairwise fun a b => a.1 ≠ b.1) (hl : R.length < 900000) (hu : usedR R ≤ 1099511627776) (s : ByteArray) (A : Option Addr) (m c : Nat) (b : List UInt8) (hs : s.size ≤ reach) (f0 : -1 ≤ fuse) (f1 : fuse ≤ 9223372036854775807) (hok : nameOk s.data.toList = true) (hf : fuse ≠ 0)
    (hr : RdB w A b) (hm : b.length = m) (hmc : m ≤ c) (hml : m ≤ reach) (hr1 : 0 ≤ room) (hr2 : room ≤ 1099511627776) (hx : ¬ idxD R s.data.toList < R.length) (hA : 0 + m ≤ 1048576) (hB : room < usedR R + m) :
    Calls Tryz.prog 22 #[.pointer (some ⟨gx, 0, none⟩), .string s, .slice A m c] w fun e w' => e = .returned (.tuple #[.int .i64 0, .int .i64 4]) ∧ AfterD w w' gx v R (R.map RF.fl) room (-1) (chFuse true fuse) := by
  obtain ⟨i0, hi0, hz0, hz1, hz2⟩ := info_parts info_u8
  have HN := Shut.mk (risName_calls s w hs)
  rw [hok] at HN
  have HB := Shut.mk (burn_calls hR f0 f1)
  rw [decide_eq_true hf] at HB
  generalize chFuse true fuse = fu at HB ⊢
  have HP := Shut.mk hp
  have HX := Shut.mk hx
  have HROW := Shut.mk hR.row_ne
  have HOWN := Shut.mk (fun (c : RF) (hc : c ∈ R) => hR.own_ne hc)
  have HLT := Shut.mk hR.blk.lt
  have HR0 := Shut.mk hr
  have HBM := Shut.mk hm
  have HRK := Shut.mk (fun (w' : World) (h : Kb w w' [gx]) => rdB_gx hR HR0.out h)
  have HLE := Shut.mk (fun c (hc : c ∈ R) => usedR_mem hc)
  unfold reach at hml
  have hpv : placeV R s.data.toList = -1 := by simp [placeV, hx]
  have HNO := Shut.mk (idx_none hx)
  have HPV := Shut.mk hpv
  have HRL := Shut.mk (fun (h : R.length < 900000) => h)
  clear hok hs hf hr hm hR hp hx hpv
  go_enter Tryz.func22, Tryz.ntmps22
  go_wp2_with fail
  refine HN.out.mono ?_
  rintro e w1 ⟨rfl, rfl⟩
  go_wp2_with fail
  refine HB.out.mono ?_
  rintro e w2 ⟨rfl, hR2, hk2⟩
  have q2 : w2.cell? ⟨gx, 2, none⟩ = some (.int .i64 (-1)) := hR2.blk.cell 2
  have f2 := hR2.blk.free 2
  have HR3 := Shut.mk (hR2.num 2 (.int .i64 (-1)) (room' := room) (short' := -1) (fuse' := fu) rfl)
  have HK3 := Shut.mk (hk2.setCell (p := ⟨gx, 2, none⟩) (by simp) (.int .i64 (-1)))
  clear hk2 HB HN hR2
  go_wp2_with fail
  generalize w2.setCell ⟨gx, 2, none⟩ (.int .i64 (-1)) = w3 at HR3 HK3 ⊢
  have HPL := Shut.mk (dplace_calls HR3.out s (by omega))
  rw [HPV.out] at HPL
  clear q2 f2
  refine HPL.out.mono ?_
  rintro e w4 ⟨rfl, hb4⟩
  have HR4 := Shut.mk (HR3.out.below hb4)
  have HK4 := Shut.mk (HK3.out.below_ hb4)
  clear hb4 HPL HR3 HK3
  have s1 : w4.cell? ⟨gx, 1, none⟩ = some (.int .i64 room) := HR4.out.blk.cell 1
  have hgx := World.block_lt_of_cell? _ _ s1
  go_wp2_with fail
  have hw1 : IntKind.i64.wrap (m : Int) = (m : Int) := by rw [IntKind.wrap_i64]; omega
  have d1 : decide ((1048576 : Int) < (m : Int)) = false := decide_eq_false (by omega)
  have HU0 := Shut.mk (rused_calls (w := w4.drew) (HR4.out.below ⟨rfl, rfl, rfl, Nat.le_refl _, fun _ _ => rfl⟩) (by omega) hu)
  have hw2 : IntKind.i64.wrap ((usedR R : Int) + (m : Int)) = (usedR R : Int) + (m : Int) := by rw [IntKind.wrap_i64]; omega
  have d2 : decide (room < (usedR R : Int) + (m : Int)) = true := decide_eq_true (by omega)
  go_region_held3 (fun w' => w'.cell? ⟨gx, 1, none⟩ = some (.int .i64 room))
    (first | exact s1 | exact t1 | go_keep)
    (first | (go_at_call 70; refine HU0.out.mono ?_; rintro e w5 ⟨rfl, hb5⟩; have t1 := (hb5.cell hgx).trans s1))
  have hb5' := below_of_drew hb5
  have HR5 := Shut.mk (HR4.out.below hb5')
  have HK5 := Shut.mk (HK4.out.below_ hb5')
  clear hb5 HU0
  go_wp2_with fail
  go_ret2
  exact ⟨rfl, AfterD.num HR5.out HK5.out⟩
set_option maxHeartbeats 2000000 in
theorem rappend_nn3 (hR : RdAt w gx v R room (-1) fuse) (hp : (R.map RF.fl).Pairwise fun a b => a.1 ≠ b.1) (hl : R.length < 900000) (hu : usedR R ≤ 1099511627776) (s : ByteArray) (A : Option Addr) (m c : Nat) (b : List UInt8) (hs : s.size ≤ reach) (f0 : -1 ≤ fuse) (f1 : fuse ≤ 9223372036854775807) (hok : nameOk s.data.toList = true) (hf : fuse ≠ 0)
    (hr : RdB w A b) (hm : b.length = m) (hmc : m ≤ c) (hml : m ≤ reach) (hr1 : 0 ≤ room) (hr2 : room ≤ 1099511627776) (hx : ¬ idxD R s.data.toList < R.length) (hA : 0 + m ≤ 1048576) (hB : usedR R + m ≤ room) :
    Calls Tryz.prog 22 #[.pointer (some ⟨gx, 0, none⟩), .string s, .slice A m c] w fun e w' => e = .returned (.tuple #[.int .i64 (m : Int), .int .i64 0]) ∧ AfterD w w' gx v R (insF (s.data.toList, b, 0) (R.map RF.fl)) room (-1) (chFuse true fuse) := by
  obtain ⟨i0, hi0, hz0, hz1, hz2⟩ := info_parts info_u8
  have HN := Shut.mk (risName_calls s w hs)
  rw [hok] at HN
  have HB := Shut.mk (burn_calls hR f0 f1)
  rw [decide_eq_true hf] at HB
  generalize chFuse true fuse = fu at HB ⊢
  have HP := Shut.mk hp
  have HX := Shut.mk hx
  have HROW := Shut.mk hR.row_ne
  have HOWN := Shut.mk (fun (c : RF) (hc : c ∈ R) => hR.own_ne hc)
  have HLT := Shut.mk hR.blk.lt
  have HR0 := Shut.mk hr
  have HBM := Shut.mk hm
  have HRK := Shut.mk (fun (w' : World) (h : Kb w w' [gx]) => rdB_gx hR HR0.out h)
  have HLE := Shut.mk (fun c (hc : c ∈ R) => usedR_mem hc)
  unfold reach at hml
  have hpv : placeV R s.data.toList = -1 := by simp [placeV, hx]
  have HNO := Shut.mk (idx_none hx)
  have HPV := Shut.mk hpv
  have HRL := Shut.mk (fun (h : R.length < 900000) => h)
  clear hok hs hf hr hm hR hp hx hpv
  go_enter Tryz.func22, Tryz.ntmps22
  go_wp2_with fail
  refine HN.out.mono ?_
  rintro e w1 ⟨rfl, rfl⟩
  go_wp2_with fail
  refine HB.out.mono ?_
  rintro e w2 ⟨rfl, hR2, hk2⟩
  have q2 : w2.cell? ⟨gx, 2, none⟩ = some (.int .i64 (-1)) := hR2.blk.cell 2
  have f2 := hR2.blk.free 2
  have HR3 := Shut.mk (hR2.num 2 (.int .i64 (-1)) (room' := room) (short' := -1) (fuse' := fu) rfl)
  have HK3 := Shut.mk (hk2.setCell (p := ⟨gx, 2, none⟩) (by simp) (.int .i64 (-1)))
  clear hk2 HB HN hR2
  go_wp2_with fail
  generalize w2.setCell ⟨gx, 2, none⟩ (.int .i64 (-1)) = w3 at HR3 HK3 ⊢
  have HPL := Shut.mk (dplace_calls HR3.out s (by omega))
  rw [HPV.out] at HPL
  clear q2 f2
  refine HPL.out.mono ?_
  rintro e w4 ⟨rfl, hb4⟩
  have HR4 := Shut.mk (HR3.out.below hb4)
  have HK4 := Shut.mk (HK3.out.below_ hb4)
  clear hb4 HPL HR3 HK3
  have s1 : w4.cell? ⟨gx, 1, none⟩ = some (.int .i64 room) := HR4.out.blk.cell 1
  have hgx := World.block_lt_of_cell? _ _ s1
  go_wp2_with fail
  have hw1 : IntKind.i64.wrap (m : Int) = (m : Int) := by rw [IntKind.wrap_i64]; omega
  have d1 : decide ((1048576 : Int) < (m : Int)) = false := decide_eq_false (by omega)
  have HU0 := Shut.mk (rused_calls (w := w4.drew) (HR4.out.below ⟨rfl, rfl, rfl, Nat.le_refl _, fun _ _ => rfl⟩) (by omega) hu)
  have hw2 : IntKind.i64.wrap ((usedR R : Int) + (m : Int)) = (usedR R : Int) + (m : Int) := by rw [IntKind.wrap_i64]; omega
  have d2 : decide (room < (usedR R : Int) + (m : Int)) = false := decide_eq_false (by omega)
  go_region_held3 (fun w' => w'.cell? ⟨gx, 1, none⟩ = some (.int .i64 room))
    (first | exact s1 | exact t1 | go_keep)
    (first | (go_at_call 70; refine HU0.out.mono ?_; rintro e w5 ⟨rfl, hb5⟩; have t1 := (hb5.cell hgx).trans s1))
  have hb5' := below_of_drew hb5
  have HR5 := Shut.mk (HR4.out.below hb5')
  have HK5 := Shut.mk (HK4.out.below_ hb5')
  clear hb5 HU0
  clear hb5' HR4 HK4
  have hs5 := HK5.out.size
  have HAD := Shut.mk (radd_calls HR5.out ⟨s, none, 0, [], 0⟩ (Own.nil _ _ _) (by omega))
  have HIA := Shut.mk (insD_at ⟨s, none, 0, [], 0⟩ R HNO.out)
  have HIS := Shut.mk (fun (y : RF) (hk : y.k.data.toList = s.data.toList) => insD_set ⟨s, none, 0, [], 0⟩ y hk R HNO.out)
  have HIL := Shut.mk (show (insD ⟨s, none, 0, [], 0⟩ R).length = R.length + 1 by rw [(insD_perm _ R).length_eq]; rfl)
  have HIM := Shut.mk (fun c => (insD_perm ⟨s, none, 0, [], 0⟩ R).mem_iff (a := c))
  generalize insD ⟨s, none, 0, [], 0⟩ R = R6 at HAD HIA HIS HIL HIM
  go_wp2_with fail
  refine HAD.out.mono ?_
  rintro e w6 ⟨rfl, v6, hR6, hk6, hv6⟩
  have HK6 := Shut.mk (HK5.out.trans hk6 (fun x hx => .inl hx))
  have HPL := Shut.mk (dplace_calls hR6 s (by rw [HIL.out]; omega))
  obtain ⟨k, hk⟩ : ∃ k, k = idxD R6 s.data.toList := ⟨_, rfl⟩
  have hiA : R6[idxD R6 s.data.toList]? = some ⟨s, none, 0, [], 0⟩ := HIA.out
  rw [← hk] at hiA
  have hi6 : k < R6.length := (List.getElem?_eq_some_iff.1 hiA).1
  have hpv : placeV R6 s.data.toList = (k : Int) := by unfold placeV; rw [← hk, if_pos hi6]
  rw [hpv] at HPL
  have HIS2 := Shut.mk (fun y h => by have h9 := HIS.out y h; rw [← hk] at h9; exact h9 : ∀ (y : RF), y.k.data.toList = s.data.toList → (R6.set k y).map RF.fl = insF y.fl (R.map RF.fl))
  have HXA := Shut.mk hiA
  clear hiA hk hpv HIA HIS hk6 HAD HK5
  have HR6 := Shut.mk hR6
  have HNV := Shut.mk hv6
  clear hR6 hv6
  go_wp2_with fail
  refine HPL.out.mono ?_
  rintro e w7 ⟨rfl, hb7⟩
  have HR7 := Shut.mk (HR6.out.below hb7)
  have HK7 := Shut.mk (HK6.out.below_ hb7)
  clear hb7 HPL HR6 HK6
  obtain ⟨g, cap, hv, hnc, hcm, hcell⟩ := HR7.out.head (by omega)
  obtain ⟨N, hN⟩ : ∃ N, N = R6.length := ⟨_, rfl⟩
  rw [← hN] at hi6 hv hnc HIL
  have HN := Shut.mk hN
  unfold maxLen at hcm
  have hNl : N < 1000000 := by rw [HIL.out]; omega
  have c1 : w7.cell? ⟨g, k * 3 + 1, none⟩ = some (.slice none 0 0) := hcell (k * 3 + 1) _ (rfs_get HXA.out 1 (by omega))
  have c0 : w7.cell? ⟨gx, 0, none⟩ = some (.slice (some ⟨g, 0, none⟩) N cap) := by rw [← hv]; exact HR7.out.blk.cell 0
  have HV := Shut.mk hv
  have hkI : (k : Int) < (N : Int) := by omega
  have hk0' : ¬ (k : Int) < 0 := by omega
  clear hv hN hcell s1 t1
  have hgl := World.block_lt_of_cell? _ _ c1
  have hgx7 := World.block_lt_of_cell? _ _ c0
  have HRB := Shut.mk (HRK.out _ HK7.out)
  have hba : Below w7.heap.size w7 (w7.alloc (.cells #[] 5)).drew := by have := (Below.refl _ w7).alloc (Nat.le_refl _) (.cells #[] 5); exact ⟨this.os, this.tape, this.output, this.size, this.block⟩
  have d0 : (w7.alloc (.cells #[] 5)).cell? ⟨gx, 0, none⟩ = some (.slice (some ⟨g, 0, none⟩) N cap) := (World.cell?_alloc_lt w7 _ _ (World.block_lt_of_cell? w7 _ c0)).trans c0
  have d2 : (w7.alloc (.cells #[] 5)).cell? ⟨g, k * 3 + 1, none⟩ = some (.slice none 0 0) := (World.cell?_alloc_lt w7 _ _ (World.block_lt_of_cell? w7 _ c1)).trans c1
  have HOE := Shut.mk (show Own (w7.alloc (.cells #[] 5)).drew 5 1 (.slice (some ⟨w7.heap.size, 0, none⟩) 0 0) 0 [] from own_empty w7 _ _)
  have HRC := Shut.mk (show Rd (w7.alloc (.cells #[] 5)).drew none (bys ([] : List UInt8)) from Rd.nil _ _)
  have HCL := Shut.mk (show (bys ([] : List UInt8)).length = 0 * 1 from rfl)
  have HBL := Shut.mk (show (bys b).length = m * 1 by rw [bys_length, HBM.out, Nat.mul_one])
  have HBA := Shut.mk hba
  have HC1 := Shut.mk c1
  have HC0 := Shut.mk c0
  clear hba
  go_wp2_with fail
  go_region_law (first
    | (refine step_append _ (by rfl) _ _ _ (by rfl) 5 i0 _ 1 1 Tryz.underlying27 hi0 hz0 hz1 hz2 rfl (by decide) _ _ _ (by rfl) HOE.out _ 0 (0) _ (by rfl) HCL.out HRC.out (bys_one _) (by simp only [maxLen]; omega) (by omega) ?_
       intro v8 w8 hap
       obtain ⟨A8, c8, hv8, _⟩ := hap.own.form
       rw [Nat.zero_add] at hv8
       subst hv8
       have HO8 := Shut.mk (hap.own.cast (Nat.zero_add 0) (List.nil_append _))
       have hb8 : Below w7.heap.size w7 w8 := HBA.out.grown hap.grown (by have := HBA.out.size; exact this) (fun r hr => by cases hr; exact Nat.le_refl _)
       have hl8 : ∀ g', (Value.slice A8 0 c8).ownBlock = some g' → w7.heap.size ≤ g' := fun g' hg' => by
         rcases hap.lies with h | h
         · rw [h] at hg'; cases hg'; exact Nat.le_refl _
         · rw [h] at hg'; injection hg' with hg'; rw [← hg']; exact HBA.out.size
       have e0 : w8.cell? ⟨gx, 0, none⟩ = some (.slice (some ⟨g, 0, none⟩) N cap) := (hb8.cell hgx7).trans HC0.out
       have e2 := (hb8.cell hgl).trans HC1.out
       have hR8 := rd_of_rdB (HRB.out.keep hb8)
       have HR8 := Shut.mk hR8
       have HB8 := Shut.mk hb8
       have HL8 := Shut.mk hl8
       clear hap hb8 hl8 hR8)
    | (refine step_append _ (by rfl) _ _ _ (by rfl) 5 i0 _ 1 1 Tryz.underlying27 hi0 hz0 hz1 hz2 rfl (by decide) _ _ _ (by rfl) HO8.out _ m c _ (by rfl) HBL.out HR8.out (bys_one _) (by simp only [maxLen]; omega) (by omega) ?_
       intro v9 w9 hap
       obtain ⟨A9, c9, hv9, _⟩ := hap.own.form
       rw [Nat.zero_add] at hv9
       subst hv9
       have HO9 := Shut.mk (hap.own.cast (n' := m) (by rw [Nat.zero_add]) rfl)
       have hb9 : Below w7.heap.size w7 w9 := HB8.out.grown hap.grown HB8.out.size (fun r hr => HL8.out r hr)
       have hl9 : ∀ g', (Value.slice A9 (m) c9).ownBlock = some g' → w7.heap.size ≤ g' := fun g' hg' => by
         rcases hap.lies with h | h
         · rw [h] at hg'; exact HL8.out g' hg'
         · rw [h] at hg'; injection hg' with hg'; rw [← hg']; exact HB8.out.size
       have hRn := HR7.out.below hb9
       have e0 : w9.cell? ⟨gx, 0, none⟩ = some (.slice (some ⟨g, 0, none⟩) N cap) := by rw [← HV.out]; exact hRn.blk.cell 0
       have ef : w9.frozen? ⟨g, k * 3 + 1, none⟩ = false := by
         have := hRn.own
         rw [HV.out] at this
         rw [← HN.out] at this
         exact this.freeAt _
       have e2 := (hb9.cell hgl).trans HC1.out
       have HRN := Shut.mk hRn
       have HB9 := Shut.mk hb9
       have HL9 := Shut.mk hl9
       clear hap hb9 hl9 hRn))
  all_goals (
    have e9 : (Value.slice A9 (m) c9) = .slice A9 (([] : List UInt8) ++ b).length c9 := by rw [List.length_append, HBM.out]; try first | rfl | (simp; done)
    have hT := HRN.out.turnb HXA.out HV.out (A := A9) (cp := c9) (b := ([] : List UInt8) ++ b) (by rw [← e9]; exact HO9.out.cast (by rw [List.length_append, HBM.out]; try first | rfl | (simp; done)) (bys_append _ _).symm)
    have hK : Kb w (w9.setCell ⟨g, k * 3 + 1, none⟩ (.slice A9 (([] : List UInt8) ++ b).length c9)) (footD gx v R ++ [g]) := ((HK7.out.mono (L' := footD gx v R ++ [g]) (by simp [footD])).below_ HB9.out).setCell (by simp) _
    rw [e9]
    generalize w9.setCell ⟨g, k * 3 + 1, none⟩ (.slice A9 (([] : List UInt8) ++ b).length c9) = w10 at hT hK ⊢
    have HL10 := Shut.mk (e9 ▸ HL9.out)
    have HT := Shut.mk hT
    have HK := Shut.mk hK
    clear hT hK
    go_wp2_with fail
    go_ret2
    have hkv : g = g := rfl
    refine ⟨rfl, AfterD.set HT.out (HIS2.out ⟨s, A9, c9, [] ++ b, 0⟩ rfl) (HK.out.fresh fun x hx => ?_) (fun g' hg' => .inr (Nat.le_trans hs5 (HNV.out g' hg'))) (fun c hc g' hg' => ?_)⟩
    · rcases List.mem_append.1 hx with hx | hx
      · exact .inl hx
      · rw [List.mem_singleton.1 hx]
        exact .inr (Nat.le_trans hs5 (HNV.out g (by rw [HV.out]; rfl)))
    · rcases List.mem_or_eq_of_mem_set hc with hc | rfl
      · rcases List.mem_cons.1 (HIM.out c |>.1 hc) with rfl | hc
        · cases hg'
        · exact .inl (footD_own hc hg')
      · exact .inr (Nat.le_trans HK7.out.size (HL10.out g' hg')))
end
end Go.Proofs.YtmlfeljhojmbbaaGreatDoor

namespace Go.Proofs.YtmlfeljhojmbbaaGreatDoor
open Go.RowKit Go.Maps
set_option linter.unusedSimpArgs false
set_option linter.unusedVariables false
set_option maxRecDepth 100000

section
variable {w : World} {gx : Nat} {v : Value} {R : List RF} {room short fuse : Int}
set_option maxHeartbeats 2000000 in
theorem rappend_lo1 (sh : Nat) (hR : RdAt w gx v R room (sh : Int) fuse) (hp : (R.map RF.fl).Pairwise fun a b => a.1 ≠ b.1) (hl : R.length < 900000) (hu : usedR R ≤ 1099511627776) (s : ByteArray) (A : Option Addr) (m c : Nat) (b : List UInt8) (hs : s.size ≤ reach) (f0 : -1 ≤ fuse) (f1 : fuse ≤ 9223372036854775807) (hok : nameOk s.data.toList = true) (hf : fuse ≠ 0)
    (hr : RdB w A b) (hm : b.length = m) (hmc : m ≤ c) (hml : m ≤ reach) (hr1 : 0 ≤ room) (hr2 : room ≤ 1099511627776) (hsh : m ≤ sh) (hsh2 : sh < 9223372036854775808) {x : RF} (hx : R[idxD R s.data.toList]? = some x) (hA : 1048576 < x.b.length + m) :
    Calls Tryz.prog 22 #[.pointer (some ⟨gx, 0, none⟩), .string s, .slice A m c] w fun e w' => e = .returned (.tuple #[.int .i64 0, .int .i64 4]) ∧ AfterD w w' gx v R (R.map RF.fl) room (-1) (chFuse true fuse) := by
  obtain ⟨i0, hi0, hz0, hz1, hz2⟩ := info_parts info_u8
  have HN := Shut.mk (risName_calls s w hs)
  rw [hok] at HN
  have HB := Shut.mk (burn_calls hR f0 f1)
  rw [decide_eq_true hf] at HB
  generalize chFuse true fuse = fu at HB ⊢
  have HP := Shut.mk hp
  have HX := Shut.mk hx
  have HROW := Shut.mk hR.row_ne
  have HOWN := Shut.mk (fun (c : RF) (hc : c ∈ R) => hR.own_ne hc)
  have HLT := Shut.mk hR.blk.lt
  have HR0 := Shut.mk hr
  have HBM := Shut.mk hm
  have HRK := Shut.mk (fun (w' : World) (h : Kb w w' [gx]) => rdB_gx hR HR0.out h)
  have HLE := Shut.mk (fun c (hc : c ∈ R) => usedR_mem hc)
  unfold reach at hml
  have hi : idxD R s.data.toList < R.length := (List.getElem?_eq_some_iff.1 hx).1
  have hpv : placeV R s.data.toList = (idxD R s.data.toList : Int) := by simp [placeV, hi]
  have hxm := List.mem_of_getElem? hx
  have HXM := Shut.mk hxm
  have hxu := usedR_mem hxm
  have HKX := Shut.mk (show x.k.data.toList = s.data.toList by obtain ⟨c', h1, h2⟩ := rf_at hi; rw [hx] at h1; injection h1 with h1; rw [h1]; exact h2)
  obtain ⟨NX, hNX⟩ : ∃ NX, NX = x.b.length := ⟨_, rfl⟩
  rw [← hNX] at hA hxu
  have HNX := Shut.mk hNX
  obtain ⟨k, hk⟩ : ∃ k, k = idxD R s.data.toList := ⟨_, rfl⟩
  rw [← hk] at hpv hi HX
  clear hxm hNX hk
  have HPV := Shut.mk hpv
  have HRL := Shut.mk (fun (h : R.length < 900000) => h)
  clear hok hs hf hr hm hR hp hx hpv
  go_enter Tryz.func22, Tryz.ntmps22
  go_wp2_with fail
  refine HN.out.mono ?_
  rintro e w1 ⟨rfl, rfl⟩
  go_wp2_with fail
  refine HB.out.mono ?_
  rintro e w2 ⟨rfl, hR2, hk2⟩
  have q2 : w2.cell? ⟨gx, 2, none⟩ = some (.int .i64 (sh : Int)) := hR2.blk.cell 2
  have f2 := hR2.blk.free 2
  have HR3 := Shut.mk (hR2.num 2 (.int .i64 (-1)) (room' := room) (short' := -1) (fuse' := fu) rfl)
  have HK3 := Shut.mk (hk2.setCell (p := ⟨gx, 2, none⟩) (by simp) (.int .i64 (-1)))
  clear hk2 HB HN hR2
  have hs1 : (sh : Int) ≥ 0 := by omega
  have hs2 : ¬ ((m : Int) > (sh : Int)) := by omega
  go_wp2_with fail
  generalize w2.setCell ⟨gx, 2, none⟩ (.int .i64 (-1)) = w3 at HR3 HK3 ⊢
  have HPL := Shut.mk (dplace_calls HR3.out s (by omega))
  rw [HPV.out] at HPL
  clear q2 f2
  refine HPL.out.mono ?_
  rintro e w4 ⟨rfl, hb4⟩
  have HR4 := Shut.mk (HR3.out.below hb4)
  have HK4 := Shut.mk (HK3.out.below_ hb4)
  clear hb4 HPL HR3 HK3
  have s1 : w4.cell? ⟨gx, 1, none⟩ = some (.int .i64 room) := HR4.out.blk.cell 1
  have hgx := World.block_lt_of_cell? _ _ s1
  obtain ⟨g, cap, hv, hnc, hcm, hcell⟩ := HR4.out.head (by omega)
  obtain ⟨N, hN⟩ : ∃ N, N = R.length := ⟨_, rfl⟩
  rw [← hN] at hi hl hv hnc
  have HN := Shut.mk hN
  unfold maxLen at hcm
  have c1 : w4.cell? ⟨g, k * 3 + 1, none⟩ = some (.slice x.A NX x.cp) := by rw [HNX.out]; exact hcell (k * 3 + 1) _ (rfs_get HX.out 1 (by omega))
  have c0 : w4.cell? ⟨gx, 0, none⟩ = some (.slice (some ⟨g, 0, none⟩) N cap) := by rw [← hv]; exact HR4.out.blk.cell 0
  have HV := Shut.mk hv
  have hkI : (k : Int) < (N : Int) := by omega
  have hk0 : (k : Int) ≥ 0 := by omega
  have hk0' : ¬ (k : Int) < 0 := by omega
  clear hv hN hcell
  go_wp2_with fail
  have hw1 : IntKind.i64.wrap ((NX : Int) + (m : Int)) = (NX : Int) + (m : Int) := by rw [IntKind.wrap_i64]; omega
  have d1 : decide ((1048576 : Int) < (NX : Int) + (m : Int)) = true := decide_eq_true (by omega)
  go_quiet (fail)
  go_wp2_with fail
  go_ret2
  exact ⟨rfl, AfterD.num (HR4.out.below ⟨rfl, rfl, rfl, Nat.le_refl _, fun _ _ => rfl⟩) (HK4.out.below_ ⟨rfl, rfl, rfl, Nat.le_refl _, fun _ _ => rfl⟩)⟩
set_option maxHeartbeats 2000000 in
theorem rappend_lo2 (sh : Nat) (hR : RdAt w gx v R room (sh : Int) fuse) (hp : (R.map RF.fl).Pairwise fun a b => a.1 ≠ b.1) (hl : R.length < 900000) (hu : usedR R ≤ 1099511627776) (s : ByteArray) (A : Option Addr) (m c : Nat) (b : List UInt8) (hs : s.size ≤ reach) (f0 : -1 ≤ fuse) (f1 : fuse ≤ 9223372036854775807) (hok : nameOk s.data.toList = true) (hf : fuse ≠ 0)
    (hr : RdB w A b) (hm : b.length = m) (hmc : m ≤ c) (hml : m ≤ reach) (hr1 : 0 ≤ room) (hr2 : room ≤ 1099511627776) (hsh : m ≤ sh) (hsh2 : sh < 9223372036854775808) {x : RF} (hx : R[idxD R s.data.toList]? = some x) (hA : x.b.length + m ≤ 1048576) (hB : room < usedR R + m) :
    Calls Tryz.prog 22 #[.pointer (some ⟨gx, 0, none⟩), .string s, .slice A m c] w fun e w' => e = .returned (.tuple #[.int .i64 0, .int .i64 4]) ∧ AfterD w w' gx v R (R.map RF.fl) room (-1) (chFuse true fuse) := by
  obtain ⟨i0, hi0, hz0, hz1, hz2⟩ := info_parts info_u8
  have HN := Shut.mk (risName_calls s w hs)
  rw [hok] at HN
  have HB := Shut.mk (burn_calls hR f0 f1)
  rw [decide_eq_true hf] at HB
  generalize chFuse true fuse = fu at HB ⊢
  have HP := Shut.mk hp
  have HX := Shut.mk hx
  have HROW := Shut.mk hR.row_ne
  have HOWN := Shut.mk (fun (c : RF) (hc : c ∈ R) => hR.own_ne hc)
  have HLT := Shut.mk hR.blk.lt
  have HR0 := Shut.mk hr
  have HBM := Shut.mk hm
  have HRK := Shut.mk (fun (w' : World) (h : Kb w w' [gx]) => rdB_gx hR HR0.out h)
  have HLE := Shut.mk (fun c (hc : c ∈ R) => usedR_mem hc)
  unfold reach at hml
  have hi : idxD R s.data.toList < R.length := (List.getElem?_eq_some_iff.1 hx).1
  have hpv : placeV R s.data.toList = (idxD R s.data.toList : Int) := by simp [placeV, hi]
  have hxm := List.mem_of_getElem? hx
  have HXM := Shut.mk hxm
  have hxu := usedR_mem hxm
  have HKX := Shut.mk (show x.k.data.toList = s.data.toList by obtain ⟨c', h1, h2⟩ := rf_at hi; rw [hx] at h1; injection h1 with h1; rw [h1]; exact h2)
  obtain ⟨NX, hNX⟩ : ∃ NX, NX = x.b.length := ⟨_, rfl⟩
  rw [← hNX] at hA hxu
  have HNX := Shut.mk hNX
  obtain ⟨k, hk⟩ : ∃ k, k = idxD R s.data.toList := ⟨_, rfl⟩
  rw [← hk] at hpv hi HX
  clear hxm hNX hk
  have HPV := Shut.mk hpv
  have HRL := Shut.mk (fun (h : R.length < 900000) => h)
  clear hok hs hf hr hm hR hp hx hpv
  go_enter Tryz.func22, Tryz.ntmps22
  go_wp2_with fail
  refine HN.out.mono ?_
  rintro e w1 ⟨rfl, rfl⟩
  go_wp2_with fail
  refine HB.out.mono ?_
  rintro e w2 ⟨rfl, hR2, hk2⟩
  have q2 : w2.cell? ⟨gx, 2, none⟩ = some (.int .i64 (sh : Int)) := hR2.blk.cell 2
  have f2 := hR2.blk.free 2
  have HR3 := Shut.mk (hR2.num 2 (.int .i64 (-1)) (room' := room) (short' := -1) (fuse' := fu) rfl)
  have HK3 := Shut.mk (hk2.setCell (p := ⟨gx, 2, none⟩) (by simp) (.int .i64 (-1)))
  clear hk2 HB HN hR2
  have hs1 : (sh : Int) ≥ 0 := by omega
  have hs2 : ¬ ((m : Int) > (sh : Int)) := by omega
  go_wp2_with fail
  generalize w2.setCell ⟨gx, 2, none⟩ (.int .i64 (-1)) = w3 at HR3 HK3 ⊢
  have HPL := Shut.mk (dplace_calls HR3.out s (by omega))
  rw [HPV.out] at HPL
  clear q2 f2
  refine HPL.out.mono ?_
  rintro e w4 ⟨rfl, hb4⟩
  have HR4 := Shut.mk (HR3.out.below hb4)
  have HK4 := Shut.mk (HK3.out.below_ hb4)
  clear hb4 HPL HR3 HK3
  have s1 : w4.cell? ⟨gx, 1, none⟩ = some (.int .i64 room) := HR4.out.blk.cell 1
  have hgx := World.block_lt_of_cell? _ _ s1
  obtain ⟨g, cap, hv, hnc, hcm, hcell⟩ := HR4.out.head (by omega)
  obtain ⟨N, hN⟩ : ∃ N, N = R.length := ⟨_, rfl⟩
  rw [← hN] at hi hl hv hnc
  have HN := Shut.mk hN
  unfold maxLen at hcm
  have c1 : w4.cell? ⟨g, k * 3 + 1, none⟩ = some (.slice x.A NX x.cp) := by rw [HNX.out]; exact hcell (k * 3 + 1) _ (rfs_get HX.out 1 (by omega))
  have c0 : w4.cell? ⟨gx, 0, none⟩ = some (.slice (some ⟨g, 0, none⟩) N cap) := by rw [← hv]; exact HR4.out.blk.cell 0
  have HV := Shut.mk hv
  have hkI : (k : Int) < (N : Int) := by omega
  have hk0 : (k : Int) ≥ 0 := by omega
  have hk0' : ¬ (k : Int) < 0 := by omega
  clear hv hN hcell
  go_wp2_with fail
  have hw1 : IntKind.i64.wrap ((NX : Int) + (m : Int)) = (NX : Int) + (m : Int) := by rw [IntKind.wrap_i64]; omega
  have d1 : decide ((1048576 : Int) < (NX : Int) + (m : Int)) = false := decide_eq_false (by omega)
  have HU0 := Shut.mk (rused_calls (w := w4.drew) (HR4.out.below ⟨rfl, rfl, rfl, Nat.le_refl _, fun _ _ => rfl⟩) (by rw [← HN.out]; omega) hu)
  have hw2 : IntKind.i64.wrap ((usedR R : Int) + (m : Int)) = (usedR R : Int) + (m : Int) := by rw [IntKind.wrap_i64]; omega
  have d2 : decide (room < (usedR R : Int) + (m : Int)) = true := decide_eq_true (by omega)
  go_region_held3 (fun w' => w'.cell? ⟨gx, 1, none⟩ = some (.int .i64 room))
    (first | exact s1 | exact t1 | go_keep)
    (first | (go_at_call 70; refine HU0.out.mono ?_; rintro e w5 ⟨rfl, hb5⟩; have t1 := (hb5.cell hgx).trans s1))
  have hb5' := below_of_drew hb5
  have HR5 := Shut.mk (HR4.out.below hb5')
  have HK5 := Shut.mk (HK4.out.below_ hb5')
  clear hb5 HU0
  go_wp2_with fail
  go_ret2
  exact ⟨rfl, AfterD.num HR5.out HK5.out⟩
set_option maxHeartbeats 2000000 in
theorem rappend_lo3 (sh : Nat) (hR : RdAt w gx v R room (sh : Int) fuse) (hp : (R.map RF.fl).Pairwise fun a b => a.1 ≠ b.1) (hl : R.length < 900000) (hu : usedR R ≤ 1099511627776) (s : ByteArray) (A : Option Addr) (m c : Nat) (b : List UInt8) (hs : s.size ≤ reach) (f0 : -1 ≤ fuse) (f1 : fuse ≤ 9223372036854775807) (hok : nameOk s.data.toList = true) (hf : fuse ≠ 0)
    (hr : RdB w A b) (hm : b.length = m) (hmc : m ≤ c) (hml : m ≤ reach) (hr1 : 0 ≤ room) (hr2 : room ≤ 1099511627776) (hsh : m ≤ sh) (hsh2 : sh < 9223372036854775808) {x : RF} (hx : R[idxD R s.data.toList]? = some x) (hA : x.b.length + m ≤ 1048576) (hB : usedR R + m ≤ room) :
    Calls Tryz.prog 22 #[.pointer (some ⟨gx, 0, none⟩), .string s, .slice A m c] w fun e w' => e = .returned (.tuple #[.int .i64 (m : Int), .int .i64 0]) ∧ AfterD w w' gx v R (setF (R.map RF.fl) s.data.toList (x.b ++ b) x.syn) room (-1) (chFuse true fuse) := by
  obtain ⟨i0, hi0, hz0, hz1, hz2⟩ := info_parts info_u8
  have HN := Shut.mk (risName_calls s w hs)
  rw [hok] at HN
  have HB := Shut.mk (burn_calls hR f0 f1)
  rw [decide_eq_true hf] at HB
  generalize chFuse true fuse = fu at HB ⊢
  have HP := Shut.mk hp
  have HX := Shut.mk hx
  have HROW := Shut.mk hR.row_ne
  have HOWN := Shut.mk (fun (c : RF) (hc : c ∈ R) => hR.own_ne hc)
  have HLT := Shut.mk hR.blk.lt
  have HR0 := Shut.mk hr
  have HBM := Shut.mk hm
  have HRK := Shut.mk (fun (w' : World) (h : Kb w w' [gx]) => rdB_gx hR HR0.out h)
  have HLE := Shut.mk (fun c (hc : c ∈ R) => usedR_mem hc)
  unfold reach at hml
  have hi : idxD R s.data.toList < R.length := (List.getElem?_eq_some_iff.1 hx).1
  have hpv : placeV R s.data.toList = (idxD R s.data.toList : Int) := by simp [placeV, hi]
  have hxm := List.mem_of_getElem? hx
  have HXM := Shut.mk hxm
  have hxu := usedR_mem hxm
  have HKX := Shut.mk (show x.k.data.toList = s.data.toList by obtain ⟨c', h1, h2⟩ := rf_at hi; rw [hx] at h1; injection h1 with h1; rw [h1]; exact h2)
  obtain ⟨NX, hNX⟩ : ∃ NX, NX = x.b.length := ⟨_, rfl⟩
  rw [← hNX] at hA hxu
  have HNX := Shut.mk hNX
  obtain ⟨k, hk⟩ : ∃ k, k = idxD R s.data.toList := ⟨_, rfl⟩
  rw [← hk] at hpv hi HX
  clear hxm hNX hk
  have HPV := Shut.mk hpv
  have HRL := Shut.mk (fun (h : R.length < 900000) => h)
  clear hok hs hf hr hm hR hp hx hpv
  go_enter Tryz.func22, Tryz.ntmps22
  go_wp2_with fail
  refine HN.out.mono ?_
  rintro e w1 ⟨rfl, rfl⟩
  go_wp2_with fail
  refine HB.out.mono ?_
  rintro e w2 ⟨rfl, hR2, hk2⟩
  have q2 : w2.cell? ⟨gx, 2, none⟩ = some (.int .i64 (sh : Int)) := hR2.blk.cell 2
  have f2 := hR2.blk.free 2
  have HR3 := Shut.mk (hR2.num 2 (.int .i64 (-1)) (room' := room) (short' := -1) (fuse' := fu) rfl)
  have HK3 := Shut.mk (hk2.setCell (p := ⟨gx, 2, none⟩) (by simp) (.int .i64 (-1)))
  clear hk2 HB HN hR2
  have hs1 : (sh : Int) ≥ 0 := by omega
  have hs2 : ¬ ((m : Int) > (sh : Int)) := by omega
  go_wp2_with fail
  generalize w2.setCell ⟨gx, 2, none⟩ (.int .i64 (-1)) = w3 at HR3 HK3 ⊢
  have HPL := Shut.mk (dplace_calls HR3.out s (by omega))
  rw [HPV.out] at HPL
  clear q2 f2
  refine HPL.out.mono ?_
  rintro e w4 ⟨rfl, hb4⟩
  have HR4 := Shut.mk (HR3.out.below hb4)
  have HK4 := Shut.mk (HK3.out.below_ hb4)
  clear hb4 HPL HR3 HK3
  have s1 : w4.cell? ⟨gx, 1, none⟩ = some (.int .i64 room) := HR4.out.blk.cell 1
  have hgx := World.block_lt_of_cell? _ _ s1
  obtain ⟨g, cap, hv, hnc, hcm, hcell⟩ := HR4.out.head (by omega)
  obtain ⟨N, hN⟩ : ∃ N, N = R.length := ⟨_, rfl⟩
  rw [← hN] at hi hl hv hnc
  have HN := Shut.mk hN
  unfold maxLen at hcm
  have c1 : w4.cell? ⟨g, k * 3 + 1, none⟩ = some (.slice x.A NX x.cp) := by rw [HNX.out]; exact hcell (k * 3 + 1) _ (rfs_get HX.out 1 (by omega))
  have c0 : w4.cell? ⟨gx, 0, none⟩ = some (.slice (some ⟨g, 0, none⟩) N cap) := by rw [← hv]; exact HR4.out.blk.cell 0
  have HV := Shut.mk hv
  have hkI : (k : Int) < (N : Int) := by omega
  have hk0 : (k : Int) ≥ 0 := by omega
  have hk0' : ¬ (k : Int) < 0 := by omega
  clear hv hN hcell
  go_wp2_with fail
  have hw1 : IntKind.i64.wrap ((NX : Int) + (m : Int)) = (NX : Int) + (m : Int) := by rw [IntKind.wrap_i64]; omega
  have d1 : decide ((1048576 : Int) < (NX : Int) + (m : Int)) = false := decide_eq_false (by omega)
  have HU0 := Shut.mk (rused_calls (w := w4.drew) (HR4.out.below ⟨rfl, rfl, rfl, Nat.le_refl _, fun _ _ => rfl⟩) (by rw [← HN.out]; omega) hu)
  have hw2 : IntKind.i64.wrap ((usedR R : Int) + (m : Int)) = (usedR R : Int) + (m : Int) := by rw [IntKind.wrap_i64]; omega
  have d2 : decide (room < (usedR R : Int) + (m : Int)) = false := decide_eq_false (by omega)
  go_region_held3 (fun w' => w'.cell? ⟨gx, 1, none⟩ = some (.int .i64 room))
    (first | exact s1 | exact t1 | go_keep)
    (first | (go_at_call 70; refine HU0.out.mono ?_; rintro e w5 ⟨rfl, hb5⟩; have t1 := (hb5.cell hgx).trans s1))
  have hb5' := below_of_drew hb5
  have HR5 := Shut.mk (HR4.out.below hb5')
  have HK5 := Shut.mk (HK4.out.below_ hb5')
  clear hb5 HU0
  have e0 : w5.cell? ⟨gx, 0, none⟩ = some (.slice (some ⟨g, 0, none⟩) N cap) := (hb5'.cell (World.block_lt_of_cell? _ _ c0)).trans c0
  have e1 : w5.cell? ⟨g, k * 3 + 1, none⟩ = some (.slice x.A NX x.cp) := (hb5'.cell (World.block_lt_of_cell? _ _ c1)).trans c1
  clear hb5' c0 c1 s1 t1 HR4 HK4
  have c0 := e0
  have c1 := e1
  clear e0 e1
  have hgl := World.block_lt_of_cell? _ _ c1
  have hgx7 := World.block_lt_of_cell? _ _ c0
  have HRB := Shut.mk (HRK.out _ HK5.out)
  have hba : Below w5.heap.size w5 (w5.alloc (.cells #[] 5)).drew := by have := (Below.refl _ w5).alloc (Nat.le_refl _) (.cells #[] 5); exact ⟨this.os, this.tape, this.output, this.size, this.block⟩
  have d0 : (w5.alloc (.cells #[] 5)).cell? ⟨gx, 0, none⟩ = some (.slice (some ⟨g, 0, none⟩) N cap) := (World.cell?_alloc_lt w5 _ _ (World.block_lt_of_cell? w5 _ c0)).trans c0
  have d2 : (w5.alloc (.cells #[] 5)).cell? ⟨g, k * 3 + 1, none⟩ = some (.slice x.A NX x.cp) := (World.cell?_alloc_lt w5 _ _ (World.block_lt_of_cell? w5 _ c1)).trans c1
  have HOE := Shut.mk (show Own (w5.alloc (.cells #[] 5)).drew 5 1 (.slice (some ⟨w5.heap.size, 0, none⟩) 0 0) 0 [] from own_empty w5 _ _)
  have HOC := Shut.mk (HR5.out.rows x HXM.out)
  have HRC := Shut.mk (show Rd (w5.alloc (.cells #[] 5)).drew x.A (bys x.b) from by
    have h9 := HOC.out.below hba fun g hg => HOC.out.block_lt hg
    obtain ⟨A9, c9, e9, h8, _⟩ := h9.form
    have : x.A = A9 := by unfold RF.v at e9; injection e9
    rw [this]
    exact h8)
  have HCL := Shut.mk (show (bys x.b).length = NX * 1 by rw [bys_length, HNX.out, Nat.mul_one])
  have HBL := Shut.mk (show (bys b).length = m * 1 by rw [bys_length, HBM.out, Nat.mul_one])
  have HBA := Shut.mk hba
  have HC1 := Shut.mk c1
  have HC0 := Shut.mk c0
  clear hba
  go_wp2_with fail
  go_region_law (first
    | (refine step_append _ (by rfl) _ _ _ (by rfl) 5 i0 _ 1 1 Tryz.underlying27 hi0 hz0 hz1 hz2 rfl (by decide) _ _ _ (by rfl) HOE.out _ NX (x.cp) _ (by rfl) HCL.out HRC.out (bys_one _) (by simp only [maxLen]; omega) (by omega) ?_
       intro v8 w8 hap
       obtain ⟨A8, c8, hv8, _⟩ := hap.own.form
       rw [Nat.zero_add] at hv8
       subst hv8
       have HO8 := Shut.mk (hap.own.cast (Nat.zero_add NX) (List.nil_append _))
       have hb8 : Below w5.heap.size w5 w8 := HBA.out.grown hap.grown (by have := HBA.out.size; exact this) (fun r hr => by cases hr; exact Nat.le_refl _)
       have hl8 : ∀ g', (Value.slice A8 NX c8).ownBlock = some g' → w5.heap.size ≤ g' := fun g' hg' => by
         rcases hap.lies with h | h
         · rw [h] at hg'; cases hg'; exact Nat.le_refl _
         · rw [h] at hg'; injection hg' with hg'; rw [← hg']; exact HBA.out.size
       have e0 : w8.cell? ⟨gx, 0, none⟩ = some (.slice (some ⟨g, 0, none⟩) N cap) := (hb8.cell hgx7).trans HC0.out
       have e2 := (hb8.cell hgl).trans HC1.out
       have hR8 := rd_of_rdB (HRB.out.keep hb8)
       have HR8 := Shut.mk hR8
       have HB8 := Shut.mk hb8
       have HL8 := Shut.mk hl8
       clear hap hb8 hl8 hR8)
    | (refine step_append _ (by rfl) _ _ _ (by rfl) 5 i0 _ 1 1 Tryz.underlying27 hi0 hz0 hz1 hz2 rfl (by decide) _ _ _ (by rfl) HO8.out _ m c _ (by rfl) HBL.out HR8.out (bys_one _) (by simp only [maxLen]; omega) (by omega) ?_
       intro v9 w9 hap
       obtain ⟨A9, c9, hv9, _⟩ := hap.own.form
       skip
       subst hv9
       have HO9 := Shut.mk (hap.own.cast (n' := NX + m) (by rfl) rfl)
       have hb9 : Below w5.heap.size w5 w9 := HB8.out.grown hap.grown HB8.out.size (fun r hr => HL8.out r hr)
       have hl9 : ∀ g', (Value.slice A9 (NX + m) c9).ownBlock = some g' → w5.heap.size ≤ g' := fun g' hg' => by
         rcases hap.lies with h | h
         · rw [h] at hg'; exact HL8.out g' hg'
         · rw [h] at hg'; injection hg' with hg'; rw [← hg']; exact HB8.out.size
       have hRn := HR5.out.below hb9
       have e0 : w9.cell? ⟨gx, 0, none⟩ = some (.slice (some ⟨g, 0, none⟩) N cap) := by rw [← HV.out]; exact hRn.blk.cell 0
       have ef : w9.frozen? ⟨g, k * 3 + 1, none⟩ = false := by
         have := hRn.own
         rw [HV.out] at this
         rw [← HN.out] at this
         exact this.freeAt _
       have e2 := (hb9.cell hgl).trans HC1.out
       have HRN := Shut.mk hRn
       have HB9 := Shut.mk hb9
       have HL9 := Shut.mk hl9
       clear hap hb9 hl9 hRn))
  all_goals (
    have e9 : (Value.slice A9 (NX + m) c9) = .slice A9 (x.b ++ b).length c9 := by rw [List.length_append, HBM.out, HNX.out]; try first | rfl | (simp; done)
    have hT := HRN.out.turnb HX.out HV.out (A := A9) (cp := c9) (b := x.b ++ b) (by rw [← e9]; exact HO9.out.cast (by rw [List.length_append, HBM.out, HNX.out]; try first | rfl | (simp; done)) (bys_append _ _).symm)
    have hK : Kb w (w9.setCell ⟨g, k * 3 + 1, none⟩ (.slice A9 (x.b ++ b).length c9)) (footD gx v R) := ((HK5.out.mono (L' := footD gx v R) (by simp [footD])).below_ HB9.out).setCell (by simp [footD, HV.out, Value.ownBlock]) _
    rw [e9]
    generalize w9.setCell ⟨g, k * 3 + 1, none⟩ (.slice A9 (x.b ++ b).length c9) = w10 at hT hK ⊢
    have HL10 := Shut.mk (e9 ▸ HL9.out)
    have HT := Shut.mk hT
    have HK := Shut.mk hK
    clear hT hK
    go_wp2_with fail
    go_ret2
    refine ⟨rfl, AfterD.set HT.out (by
      have h9 := set_fl HP.out HX.out (y := ⟨x.k, A9, c9, x.b ++ b, x.syn⟩) rfl
      rw [HKX.out] at h9
      exact h9) HK.out (fun g hg => .inl hg) (fun c hc g' hg' => ?_)⟩
    rcases List.mem_or_eq_of_mem_set hc with hc | rfl
    · exact .inl (footD_own hc hg')
    · exact .inr (Nat.le_trans HK5.out.size (HL10.out g' hg')))
set_option maxHeartbeats 2000000 in
theorem rappend_ln1 (sh : Nat) (hR : RdAt w gx v R room (sh : Int) fuse) (hp : (R.map RF.fl).Pairwise fun a b => a.1 ≠ b.1) (hl : R.length < 900000) (hu : usedR R ≤ 1099511627776) (s : ByteArray) (A : Option Addr) (m c : Nat) (b : List UInt8) (hs : s.size ≤ reach) (f0 : -1 ≤ fuse) (f1 : fuse ≤ 9223372036854775807) (hok : nameOk s.data.toList = true) (hf : fuse ≠ 0)
    (hr : RdB w A b) (hm : b.length = m) (hmc : m ≤ c) (hml : m ≤ reach) (hr1 : 0 ≤ room) (hr2 : room ≤ 1099511627776) (hsh : m ≤ sh) (hsh2 : sh < 9223372036854775808) (hx : ¬ idxD R s.data.toList < R.length) (hA : 1048576 < 0 + m) :
    Calls Tryz.prog 22 #[.pointer (some ⟨gx, 0, none⟩), .string s, .slice A m c] w fun e w' => e = .returned (.tuple #[.int .i64 0, .int .i64 4]) ∧ AfterD w w' gx v R (R.map RF.fl) room (-1) (chFuse true fuse) := by
  obtain ⟨i0, hi0, hz0, hz1, hz2⟩ := info_parts info_u8
  have HN := Shut.mk (risName_calls s w hs)
  rw [hok] at HN
  have HB := Shut.mk (burn_calls hR f0 f1)
  rw [decide_eq_true hf] at HB
  generalize chFuse true fuse = fu at HB ⊢
  have HP := Shut.mk hp
  have HX := Shut.mk hx
  have HROW := Shut.mk hR.row_ne
  have HOWN := Shut.mk (fun (c : RF) (hc : c ∈ R) => hR.own_ne hc)
  have HLT := Shut.mk hR.blk.lt
  have HR0 := Shut.mk hr
  have HBM := Shut.mk hm
  have HRK := Shut.mk (fun (w' : World) (h : Kb w w' [gx]) => rdB_gx hR HR0.out h)
  have HLE := Shut.mk (fun c (hc : c ∈ R) => usedR_mem hc)
  unfold reach at hml
  have hpv : placeV R s.data.toList = -1 := by simp [placeV, hx]
  have HNO := Shut.mk (idx_none hx)
  have HPV := Shut.mk hpv
  have HRL := Shut.mk (fun (h : R.length < 900000) => h)
  clear hok hs hf hr hm hR hp hx hpv
  go_enter Tryz.func22, Tryz.ntmps22
  go_wp2_with fail
  refine HN.out.mono ?_
  rintro e w1 ⟨rfl, rfl⟩
  go_wp2_with fail
  refine HB.out.mono ?_
  rintro e w2 ⟨rfl, hR2, hk2⟩
  have q2 : w2.cell? ⟨gx, 2, none⟩ = some (.int .i64 (sh : Int)) := hR2.blk.cell 2
  have f2 := hR2.blk.free 2
  have HR3 := Shut.mk (hR2.num 2 (.int .i64 (-1)) (room' := room) (short' := -1) (fuse' := fu) rfl)
  have HK3 := Shut.mk (hk2.setCell (p := ⟨gx, 2, none⟩) (by simp) (.int .i64 (-1)))
  clear hk2 HB HN hR2
  have hs1 : (sh : Int) ≥ 0 := by omega
  have hs2 : ¬ ((m : Int) > (sh : Int)) := by omega
  go_wp2_with fail
  generalize w2.setCell ⟨gx, 2, none⟩ (.int .i64 (-1)) = w3 at HR3 HK3 ⊢
  have HPL := Shut.mk (dplace_calls HR3.out s (by omega))
  rw [HPV.out] at HPL
  clear q2 f2
  refine HPL.out.mono ?_
  rintro e w4 ⟨rfl, hb4⟩
  have HR4 := Shut.mk (HR3.out.below hb4)
  have HK4 := Shut.mk (HK3.out.below_ hb4)
  clear hb4 HPL HR3 HK3
  have s1 : w4.cell? ⟨gx, 1, none⟩ = some (.int .i64 room) := HR4.out.blk.cell 1
  have hgx := World.block_lt_of_cell? _ _ s1
  go_wp2_with fail
  have hw1 : IntKind.i64.wrap (m : Int) = (m : Int) := by rw [IntKind.wrap_i64]; omega
  have d1 : decide ((1048576 : Int) < (m : Int)) = true := decide_eq_true (by omega)
  go_quiet (fail)
  go_wp2_with fail
  go_ret2
  exact ⟨rfl, AfterD.num (HR4.out.below ⟨rfl, rfl, rfl, Nat.le_refl _, fun _ _ => rfl⟩) (HK4.out.below_ ⟨rfl, rfl, rfl, Nat.le_refl _, fun _ _ => rfl⟩)⟩
set_option maxHeartbeats 2000000 in
theorem rappend_ln2 (sh : Nat) (hR : RdAt w gx v R room (sh : Int) fuse) (hp : (R.map RF.fl).Pairwise fun a b => a.1 ≠ b.1) (hl : R.length < 900000) (hu : usedR R ≤ 1099511627776) (s : ByteArray) (A : Option Addr) (m c : Nat) (b : List UInt8) (hs : s.size ≤ reach) (f0 : -1 ≤ fuse) (f1 : fuse ≤ 9223372036854775807) (hok : nameOk s.data.toList = true) (hf : fuse ≠ 0)
    (hr : RdB w A b) (hm : b.length = m) (hmc : m ≤ c) (hml : m ≤ reach) (hr1 : 0 ≤ room) (hr2 : room ≤ 1099511627776) (hsh : m ≤ sh) (hsh2 : sh < 9223372036854775808) (hx : ¬ idxD R s.data.toList < R.length) (hA : 0 + m ≤ 1048576) (hB : room < usedR R + m) :
    Calls Tryz.prog 22 #[.pointer (some ⟨gx, 0, none⟩), .string s, .slice A m c] w fun e w' => e = .returned (.tuple #[.int .i64 0, .int .i64 4]) ∧ AfterD w w' gx v R (R.map RF.fl) room (-1) (chFuse true fuse) := by
  obtain ⟨i0, hi0, hz0, hz1, hz2⟩ := info_parts info_u8
  have HN := Shut.mk (risName_calls s w hs)
  rw [hok] at HN
  have HB := Shut.mk (burn_calls hR f0 f1)
  rw [decide_eq_true hf] at HB
  generalize chFuse true fuse = fu at HB ⊢
  have HP := Shut.mk hp
  have HX := Shut.mk hx
  have HROW := Shut.mk hR.row_ne
  have HOWN := Shut.mk (fun (c : RF) (hc : c ∈ R) => hR.own_ne hc)
  have HLT := Shut.mk hR.blk.lt
  have HR0 := Shut.mk hr
  have HBM := Shut.mk hm
  have HRK := Shut.mk (fun (w' : World) (h : Kb w w' [gx]) => rdB_gx hR HR0.out h)
  have HLE := Shut.mk (fun c (hc : c ∈ R) => usedR_mem hc)
  unfold reach at hml
  have hpv : placeV R s.data.toList = -1 := by simp [placeV, hx]
  have HNO := Shut.mk (idx_none hx)
  have HPV := Shut.mk hpv
  have HRL := Shut.mk (fun (h : R.length < 900000) => h)
  clear hok hs hf hr hm hR hp hx hpv
  go_enter Tryz.func22, Tryz.ntmps22
  go_wp2_with fail
  refine HN.out.mono ?_
  rintro e w1 ⟨rfl, rfl⟩
  go_wp2_with fail
  refine HB.out.mono ?_
  rintro e w2 ⟨rfl, hR2, hk2⟩
  have q2 : w2.cell? ⟨gx, 2, none⟩ = some (.int .i64 (sh : Int)) := hR2.blk.cell 2
  have f2 := hR2.blk.free 2
  have HR3 := Shut.mk (hR2.num 2 (.int .i64 (-1)) (room' := room) (short' := -1) (fuse' := fu) rfl)
  have HK3 := Shut.mk (hk2.setCell (p := ⟨gx, 2, none⟩) (by simp) (.int .i64 (-1)))
  clear hk2 HB HN hR2
  have hs1 : (sh : Int) ≥ 0 := by omega
  have hs2 : ¬ ((m : Int) > (sh : Int)) := by omega
  go_wp2_with fail
  generalize w2.setCell ⟨gx, 2, none⟩ (.int .i64 (-1)) = w3 at HR3 HK3 ⊢
  have HPL := Shut.mk (dplace_calls HR3.out s (by omega))
  rw [HPV.out] at HPL
  clear q2 f2
  refine HPL.out.mono ?_
  rintro e w4 ⟨rfl, hb4⟩
  have HR4 := Shut.mk (HR3.out.below hb4)
  have HK4 := Shut.mk (HK3.out.below_ hb4)
  clear hb4 HPL HR3 HK3
  have s1 : w4.cell? ⟨gx, 1, none⟩ = some (.int .i64 room) := HR4.out.blk.cell 1
  have hgx := World.block_lt_of_cell? _ _ s1
  go_wp2_with fail
  have hw1 : IntKind.i64.wrap (m : Int) = (m : Int) := by rw [IntKind.wrap_i64]; omega
  have d1 : decide ((1048576 : Int) < (m : Int)) = false := decide_eq_false (by omega)
  have HU0 := Shut.mk (rused_calls (w := w4.drew) (HR4.out.below ⟨rfl, rfl, rfl, Nat.le_refl _, fun _ _ => rfl⟩) (by omega) hu)
  have hw2 : IntKind.i64.wrap ((usedR R : Int) + (m : Int)) = (usedR R : Int) + (m : Int) := by rw [IntKind.wrap_i64]; omega
  have d2 : decide (room < (usedR R : Int) + (m : Int)) = true := decide_eq_true (by omega)
  go_region_held3 (fun w' => w'.cell? ⟨gx, 1, none⟩ = some (.int .i64 room))
    (first | exact s1 | exact t1 | go_keep)
    (first | (go_at_call 70; refine HU0.out.mono ?_; rintro e w5 ⟨rfl, hb5⟩; have t1 := (hb5.cell hgx).trans s1))
  have hb5' := below_of_drew hb5
  have HR5 := Shut.mk (HR4.out.below hb5')
  have HK5 := Shut.mk (HK4.out.below_ hb5')
  clear hb5 HU0
  go_wp2_with fail
  go_ret2
  exact ⟨rfl, AfterD.num HR5.out HK5.out⟩
set_option maxHeartbeats 2000000 in
theorem rappend_ln3 (sh : Nat) (hR : RdAt w gx v R room (sh : Int) fuse) (hp : (R.map RF.fl).Pairwise fun a b => a.1 ≠ b.1) (hl : R.length < 900000) (hu : usedR R ≤ 1099511627776) (s : ByteArray) (A : Option Addr) (m c : Nat) (b : List UInt8) (hs : s.size ≤ reach) (f0 : -1 ≤ fuse) (f1 : fuse ≤ 9223372036854775807) (hok : nameOk s.data.toList = true) (hf : fuse ≠ 0)
    (hr : RdB w A b) (hm : b.length = m) (hmc : m ≤ c) (hml : m ≤ reach) (hr1 : 0 ≤ room) (hr2 : room ≤ 1099511627776) (hsh : m ≤ sh) (hsh2 : sh < 9223372036854775808) (hx : ¬ idxD R s.data.toList < R.length) (hA : 0 + m ≤ 1048576) (hB : usedR R + m ≤ room) :
    Calls Tryz.prog 22 #[.pointer (some ⟨gx, 0, none⟩), .string s, .slice A m c] w fun e w' => e = .returned (.tuple #[.int .i64 (m : Int), .int .i64 0]) ∧ AfterD w w' gx v R (insF (s.data.toList, b, 0) (R.map RF.fl)) room (-1) (chFuse true fuse) := by
  obtain ⟨i0, hi0, hz0, hz1, hz2⟩ := info_parts info_u8
  have HN := Shut.mk (risName_calls s w hs)
  rw [hok] at HN
  have HB := Shut.mk (burn_calls hR f0 f1)
  rw [decide_eq_true hf] at HB
  generalize chFuse true fuse = fu at HB ⊢
  have HP := Shut.mk hp
  have HX := Shut.mk hx
  have HROW := Shut.mk hR.row_ne
  have HOWN := Shut.mk (fun (c : RF) (hc : c ∈ R) => hR.own_ne hc)
  have HLT := Shut.mk hR.blk.lt
  have HR0 := Shut.mk hr
  have HBM := Shut.mk hm
  have HRK := Shut.mk (fun (w' : World) (h : Kb w w' [gx]) => rdB_gx hR HR0.out h)
  have HLE := Shut.mk (fun c (hc : c ∈ R) => usedR_mem hc)
  unfold reach at hml
  have hpv : placeV R s.data.toList = -1 := by simp [placeV, hx]
  have HNO := Shut.mk (idx_none hx)
  have HPV := Shut.mk hpv
  have HRL := Shut.mk (fun (h : R.length < 900000) => h)
  clear hok hs hf hr hm hR hp hx hpv
  go_enter Tryz.func22, Tryz.ntmps22
  go_wp2_with fail
  refine HN.out.mono ?_
  rintro e w1 ⟨rfl, rfl⟩
  go_wp2_with fail
  refine HB.out.mono ?_
  rintro e w2 ⟨rfl, hR2, hk2⟩
  have q2 : w2.cell? ⟨gx, 2, none⟩ = some (.int .i64 (sh : Int)) := hR2.blk.cell 2
  have f2 := hR2.blk.free 2
  have HR3 := Shut.mk (hR2.num 2 (.int .i64 (-1)) (room' := room) (short' := -1) (fuse' := fu) rfl)
  have HK3 := Shut.mk (hk2.setCell (p := ⟨gx, 2, none⟩) (by simp) (.int .i64 (-1)))
  clear hk2 HB HN hR2
  have hs1 : (sh : Int) ≥ 0 := by omega
  have hs2 : ¬ ((m : Int) > (sh : Int)) := by omega
  go_wp2_with fail
  generalize w2.setCell ⟨gx, 2, none⟩ (.int .i64 (-1)) = w3 at HR3 HK3 ⊢
  have HPL := Shut.mk (dplace_calls HR3.out s (by omega))
  rw [HPV.out] at HPL
  clear q2 f2
  refine HPL.out.mono ?_
  rintro e w4 ⟨rfl, hb4⟩
  have HR4 := Shut.mk (HR3.out.below hb4)
  have HK4 := Shut.mk (HK3.out.below_ hb4)
  clear hb4 HPL HR3 HK3
  have s1 : w4.cell? ⟨gx, 1, none⟩ = some (.int .i64 room) := HR4.out.blk.cell 1
  have hgx := World.block_lt_of_cell? _ _ s1
  go_wp2_with fail
  have hw1 : IntKind.i64.wrap (m : Int) = (m : Int) := by rw [IntKind.wrap_i64]; omega
  have d1 : decide ((1048576 : Int) < (m : Int)) = false := decide_eq_false (by omega)
  have HU0 := Shut.mk (rused_calls (w := w4.drew) (HR4.out.below ⟨rfl, rfl, rfl, Nat.le_refl _, fun _ _ => rfl⟩) (by omega) hu)
  have hw2 : IntKind.i64.wrap ((usedR R : Int) + (m : Int)) = (usedR R : Int) + (m : Int) := by rw [IntKind.wrap_i64]; omega
  have d2 : decide (room < (usedR R : Int) + (m : Int)) = false := decide_eq_false (by omega)
  go_region_held3 (fun w' => w'.cell? ⟨gx, 1, none⟩ = some (.int .i64 room))
    (first | exact s1 | exact t1 | go_keep)
    (first | (go_at_call 70; refine HU0.out.mono ?_; rintro e w5 ⟨rfl, hb5⟩; have t1 := (hb5.cell hgx).trans s1))
  have hb5' := below_of_drew hb5
  have HR5 := Shut.mk (HR4.out.below hb5')
  have HK5 := Shut.mk (HK4.out.below_ hb5')
  clear hb5 HU0
  clear hb5' HR4 HK4
  have hs5 := HK5.out.size
  have HAD := Shut.mk (radd_calls HR5.out ⟨s, none, 0, [], 0⟩ (Own.nil _ _ _) (by omega))
  have HIA := Shut.mk (insD_at ⟨s, none, 0, [], 0⟩ R HNO.out)
  have HIS := Shut.mk (fun (y : RF) (hk : y.k.data.toList = s.data.toList) => insD_set ⟨s, none, 0, [], 0⟩ y hk R HNO.out)
  have HIL := Shut.mk (show (insD ⟨s, none, 0, [], 0⟩ R).length = R.length + 1 by rw [(insD_perm _ R).length_eq]; rfl)
  have HIM := Shut.mk (fun c => (insD_perm ⟨s, none, 0, [], 0⟩ R).mem_iff (a := c))
  generalize insD ⟨s, none, 0, [], 0⟩ R = R6 at HAD HIA HIS HIL HIM
  go_wp2_with fail
  refine HAD.out.mono ?_
  rintro e w6 ⟨rfl, v6, hR6, hk6, hv6⟩
  have HK6 := Shut.mk (HK5.out.trans hk6 (fun x hx => .inl hx))
  have HPL := Shut.mk (dplace_calls hR6 s (by rw [HIL.out]; omega))
  obtain ⟨k, hk⟩ : ∃ k, k = idxD R6 s.data.toList := ⟨_, rfl⟩
  have hiA : R6[idxD R6 s.data.toList]? = some ⟨s, none, 0, [], 0⟩ := HIA.out
  rw [← hk] at hiA
  have hi6 : k < R6.length := (List.getElem?_eq_some_iff.1 hiA).1
  have hpv : placeV R6 s.data.toList = (k : Int) := by unfold placeV; rw [← hk, if_pos hi6]
  rw [hpv] at HPL
  have HIS2 := Shut.mk (fun y h => by have h9 := HIS.out y h; rw [← hk] at h9; exact h9 : ∀ (y : RF), y.k.data.toList = s.data.toList → (R6.set k y).map RF.fl = insF y.fl (R.map RF.fl))
  have HXA := Shut.mk hiA
  clear hiA hk hpv HIA HIS hk6 HAD HK5
  have HR6 := Shut.mk hR6
  have HNV := Shut.mk hv6
  clear hR6 hv6
  go_wp2_with fail
  refine HPL.out.mono ?_
  rintro e w7 ⟨rfl, hb7⟩
  have HR7 := Shut.mk (HR6.out.below hb7)
  have HK7 := Shut.mk (HK6.out.below_ hb7)
  clear hb7 HPL HR6 HK6
  obtain ⟨g, cap, hv, hnc, hcm, hcell⟩ := HR7.out.head (by omega)
  obtain ⟨N, hN⟩ : ∃ N, N = R6.length := ⟨_, rfl⟩
  rw [← hN] at hi6 hv hnc HIL
  have HN := Shut.mk hN
  unfold maxLen at hcm
  have hNl : N < 1000000 := by rw [HIL.out]; omega
  have c1 : w7.cell? ⟨g, k * 3 + 1, none⟩ = some (.slice none 0 0) := hcell (k * 3 + 1) _ (rfs_get HXA.out 1 (by omega))
  have c0 : w7.cell? ⟨gx, 0, none⟩ = some (.slice (some ⟨g, 0, none⟩) N cap) := by rw [← hv]; exact HR7.out.blk.cell 0
  have HV := Shut.mk hv
  have hkI : (k : Int) < (N : Int) := by omega
  have hk0' : ¬ (k : Int) < 0 := by omega
  clear hv hN hcell s1 t1
  have hgl := World.block_lt_of_cell? _ _ c1
  have hgx7 := World.block_lt_of_cell? _ _ c0
  have HRB := Shut.mk (HRK.out _ HK7.out)
  have hba : Below w7.heap.size w7 (w7.alloc (.cells #[] 5)).drew := by have := (Below.refl _ w7).alloc (Nat.le_refl _) (.cells #[] 5); exact ⟨this.os, this.tape, this.output, this.size, this.block⟩
  have d0 : (w7.alloc (.cells #[] 5)).cell? ⟨gx, 0, none⟩ = some (.slice (some ⟨g, 0, none⟩) N cap) := (World.cell?_alloc_lt w7 _ _ (World.block_lt_of_cell? w7 _ c0)).trans c0
  have d2 : (w7.alloc (.cells #[] 5)).cell? ⟨g, k * 3 + 1, none⟩ = some (.slice none 0 0) := (World.cell?_alloc_lt w7 _ _ (World.block_lt_of_cell? w7 _ c1)).trans c1
  have HOE := Shut.mk (show Own (w7.alloc (.cells #[] 5)).drew 5 1 (.slice (some ⟨w7.heap.size, 0, none⟩) 0 0) 0 [] from own_empty w7 _ _)
  have HRC := Shut.mk (show Rd (w7.alloc (.cells #[] 5)).drew none (bys ([] : List UInt8)) from Rd.nil _ _)
  have HCL := Shut.mk (show (bys ([] : List UInt8)).length = 0 * 1 from rfl)
  have HBL := Shut.mk (show (bys b).length = m * 1 by rw [bys_length, HBM.out, Nat.mul_one])
  have HBA := Shut.mk hba
  have HC1 := Shut.mk c1
  have HC0 := Shut.mk c0
  clear hba
  go_wp2_with fail
  go_region_law (first
    | (refine step_append _ (by rfl) _ _ _ (by rfl) 5 i0 _ 1 1 Tryz.underlying27 hi0 hz0 hz1 hz2 rfl (by decide) _ _ _ (by rfl) HOE.out _ 0 (0) _ (by rfl) HCL.out HRC.out (bys_one _) (by simp only [maxLen]; omega) (by omega) ?_
       intro v8 w8 hap
       obtain ⟨A8, c8, hv8, _⟩ := hap.own.form
       rw [Nat.zero_add] at hv8
       subst hv8
       have HO8 := Shut.mk (hap.own.cast (Nat.zero_add 0) (List.nil_append _))
       have hb8 : Below w7.heap.size w7 w8 := HBA.out.grown hap.grown (by have := HBA.out.size; exact this) (fun r hr => by cases hr; exact Nat.le_refl _)
       have hl8 : ∀ g', (Value.slice A8 0 c8).ownBlock = some g' → w7.heap.size ≤ g' := fun g' hg' => by
         rcases hap.lies with h | h
         · rw [h] at hg'; cases hg'; exact Nat.le_refl _
         · rw [h] at hg'; injection hg' with hg'; rw [← hg']; exact HBA.out.size
       have e0 : w8.cell? ⟨gx, 0, none⟩ = some (.slice (some ⟨g, 0, none⟩) N cap) := (hb8.cell hgx7).trans HC0.out
       have e2 := (hb8.cell hgl).trans HC1.out
       have hR8 := rd_of_rdB (HRB.out.keep hb8)
       have HR8 := Shut.mk hR8
       have HB8 := Shut.mk hb8
       have HL8 := Shut.mk hl8
       clear hap hb8 hl8 hR8)
    | (refine step_append _ (by rfl) _ _ _ (by rfl) 5 i0 _ 1 1 Tryz.underlying27 hi0 hz0 hz1 hz2 rfl (by decide) _ _ _ (by rfl) HO8.out _ m c _ (by rfl) HBL.out HR8.out (bys_one _) (by simp only [maxLen]; omega) (by omega) ?_
       intro v9 w9 hap
       obtain ⟨A9, c9, hv9, _⟩ := hap.own.form
       rw [Nat.zero_add] at hv9
       subst hv9
       have HO9 := Shut.mk (hap.own.cast (n' := m) (by rw [Nat.zero_add]) rfl)
       have hb9 : Below w7.heap.size w7 w9 := HB8.out.grown hap.grown HB8.out.size (fun r hr => HL8.out r hr)
       have hl9 : ∀ g', (Value.slice A9 (m) c9).ownBlock = some g' → w7.heap.size ≤ g' := fun g' hg' => by
         rcases hap.lies with h | h
         · rw [h] at hg'; exact HL8.out g' hg'
         · rw [h] at hg'; injection hg' with hg'; rw [← hg']; exact HB8.out.size
       have hRn := HR7.out.below hb9
       have e0 : w9.cell? ⟨gx, 0, none⟩ = some (.slice (some ⟨g, 0, none⟩) N cap) := by rw [← HV.out]; exact hRn.blk.cell 0
       have ef : w9.frozen? ⟨g, k * 3 + 1, none⟩ = false := by
         have := hRn.own
         rw [HV.out] at this
         rw [← HN.out] at this
         exact this.freeAt _
       have e2 := (hb9.cell hgl).trans HC1.out
       have HRN := Shut.mk hRn
       have HB9 := Shut.mk hb9
       have HL9 := Shut.mk hl9
       clear hap hb9 hl9 hRn))
  all_goals (
    have e9 : (Value.slice A9 (m) c9) = .slice A9 (([] : List UInt8) ++ b).length c9 := by rw [List.length_append, HBM.out]; try first | rfl | (simp; done)
    have hT := HRN.out.turnb HXA.out HV.out (A := A9) (cp := c9) (b := ([] : List UInt8) ++ b) (by rw [← e9]; exact HO9.out.cast (by rw [List.length_append, HBM.out]; try first | rfl | (simp; done)) (bys_append _ _).symm)
    have hK : Kb w (w9.setCell ⟨g, k * 3 + 1, none⟩ (.slice A9 (([] : List UInt8) ++ b).length c9)) (footD gx v R ++ [g]) := ((HK7.out.mono (L' := footD gx v R ++ [g]) (by simp [footD])).below_ HB9.out).setCell (by simp) _
    rw [e9]
    generalize w9.setCell ⟨g, k * 3 + 1, none⟩ (.slice A9 (([] : List UInt8) ++ b).length c9) = w10 at hT hK ⊢
    have HL10 := Shut.mk (e9 ▸ HL9.out)
    have HT := Shut.mk hT
    have HK := Shut.mk hK
    clear hT hK
    go_wp2_with fail
    go_ret2
    have hkv : g = g := rfl
    refine ⟨rfl, AfterD.set HT.out (HIS2.out ⟨s, A9, c9, [] ++ b, 0⟩ rfl) (HK.out.fresh fun x hx => ?_) (fun g' hg' => .inr (Nat.le_trans hs5 (HNV.out g' hg'))) (fun c hc g' hg' => ?_)⟩
    · rcases List.mem_append.1 hx with hx | hx
      · exact .inl hx
      · rw [List.mem_singleton.1 hx]
        exact .inr (Nat.le_trans hs5 (HNV.out g (by rw [HV.out]; rfl)))
    · rcases List.mem_or_eq_of_mem_set hc with hc | rfl
      · rcases List.mem_cons.1 (HIM.out c |>.1 hc) with rfl | hc
        · cases hg'
        · exact .inl (footD_own hc hg')
      · exact .inr (Nat.le_trans HK7.out.size (HL10.out g' hg')))
end
end Go.Proofs.YtmlfeljhojmbbaaGreatDoor
