/- Words for the document's disk: its files in memory, and what a store leaves of them. -/
import Derived.Test.YtjmaimpfplojpaaOps2
import Derived.BigQuiet
import Derived.Deep.RegionHeld3
import Derived.Deep.RegionLaw
import Derived.Lib.Strings
namespace Go.Proofs.Ytjmaimpfplojpaa
open Go.RowKit Go.Maps
set_option linter.unusedSimpArgs false
set_option linter.unusedVariables false
set_option maxRecDepth 100000

theorem str_eq (a b : ByteArray) : (a.toList == b.toList) = decide (a.data.toList = b.data.toList) := by
  rw [Lib.toList_data, Lib.toList_data]
  by_cases h : a.data.toList = b.data.toList
  · simp [h]
  · rw [decide_eq_false h]
    exact beq_eq_false_iff_ne.2 h
/-- a file of the document's disk -/
structure RF where
  k : ByteArray
  A : Option Addr
  cp : Nat
  b : List UInt8
  syn : Nat
def RF.v (c : RF) : Value := .slice c.A c.b.length c.cp
def RF.cells (c : RF) : List Value := [.string c.k, c.v, .int .i64 (c.syn : Int)]
/-- a file, without its place in memory -/
def RF.fl (c : RF) : Fl := (c.k.data.toList, c.b, c.syn)
def rfs (R : List RF) : List Value := R.flatMap RF.cells
theorem rfs_cons (x : RF) (l : List RF) : rfs (x :: l) = .string x.k :: x.v :: .int .i64 (x.syn : Int) :: rfs l := rfl
theorem rfs_length (R : List RF) : (rfs R).length = R.length * 3 := by
  induction R with
  | nil => rfl
  | cons c r ih =>
    rw [rfs_cons, List.length_cons, List.length_cons, List.length_cons, ih, List.length_cons]
    omega
theorem rfs_get {R : List RF} {k : Nat} {c : RF} (h : R[k]? = some c) (j : Nat) (hj : j < 3) : (rfs R)[k * 3 + j]? = c.cells[j]? := by
  induction R generalizing k with
  | nil => simp at h
  | cons a r ih =>
    have e : rfs (a :: r) = a.cells ++ rfs r := rfl
    have hl : a.cells.length = 3 := rfl
    rw [e]
    cases k with
    | zero =>
      simp at h
      subst h
      rw [List.getElem?_append_left (by rw [hl]; omega)]
      simp
    | succ k =>
      rw [List.getElem?_append_right (by rw [hl]; omega), hl, show (k + 1) * 3 + j - 3 = k * 3 + j by omega]
      exact ih (by simpa using h)
theorem rfs_append (R S : List RF) : rfs (R ++ S) = rfs R ++ rfs S := by simp [rfs]
theorem rfs_take (R : List RF) (k : Nat) : rfs (R.take k) = (rfs R).take (k * 3) := by
  induction R generalizing k with
  | nil => simp [rfs]
  | cons a r ih =>
    cases k with
    | zero => simp [rfs]
    | succ k => rw [List.take_succ_cons, rfs_cons, rfs_cons, show (k + 1) * 3 = k * 3 + 1 + 1 + 1 by omega, List.take_succ_cons, List.take_succ_cons, List.take_succ_cons, ih]
theorem rfs_one (R : List RF) : ∀ u ∈ rfs R, u.oneCell' = true := by
  intro u hu
  simp only [rfs, List.mem_flatMap] at hu
  obtain ⟨c, _, hu⟩ := hu
  simp [RF.cells, RF.v] at hu
  rcases hu with rfl | rfl | rfl <;> rfl
theorem rfs_setb {R : List RF} {k : Nat} {c : RF} (h : R[k]? = some c) (A : Option Addr) (cp : Nat) (b : List UInt8) : (rfs R).set (k * 3 + 1) (.slice A b.length cp) = rfs (R.set k ⟨c.k, A, cp, b, c.syn⟩) := by
  induction R generalizing k with
  | nil => simp at h
  | cons a r ih =>
    cases k with
    | zero =>
      simp at h
      subst h
      rw [List.set_cons_zero, rfs_cons, rfs_cons]
      rfl
    | succ k => rw [List.set_cons_succ, rfs_cons, rfs_cons, show (k + 1) * 3 + 1 = (k * 3 + 1) + 1 + 1 + 1 by omega, List.set_cons_succ, List.set_cons_succ, List.set_cons_succ, ih (by simpa using h)]
theorem rfs_sets {R : List RF} {k : Nat} {c : RF} (h : R[k]? = some c) (n : Nat) : (rfs R).set (k * 3 + 2) (.int .i64 (n : Int)) = rfs (R.set k ⟨c.k, c.A, c.cp, c.b, n⟩) := by
  induction R generalizing k with
  | nil => simp at h
  | cons a r ih =>
    cases k with
    | zero =>
      simp at h
      subst h
      rw [List.set_cons_zero, rfs_cons, rfs_cons]
      rfl
    | succ k => rw [List.set_cons_succ, rfs_cons, rfs_cons, show (k + 1) * 3 + 2 = (k * 3 + 2) + 1 + 1 + 1 by omega, List.set_cons_succ, List.set_cons_succ, List.set_cons_succ, ih (by simpa using h)]
theorem info_rf : (Try.prog.info? 89).map (fun i => (i.zero, i.size, i.bytes)) = some (some (.agg #[.string ByteArray.empty, .slice none 0 0, .int .i64 0]), 3, 48) := by kernel_rfl
theorem fld_addr (ad : Addr) (a j : Nat) (hj : 0 < j) : (⟨(ad.add a).block, (ad.add a).off + j, none⟩ : Addr) = ad.add (a + j) := by
  unfold Addr.add
  rw [if_neg (show ¬ a + j = 0 by omega)]
  by_cases h : a = 0
  · simp [h]
  · rw [if_neg h]
    simp [Nat.add_assoc]
/-- a disk of the document: its block gx, the row v of its files R -/
structure RdAt (w : World) (gx : Nat) (v : Value) (R : List RF) (room short fuse : Int) : Prop where
  blk : Blk w gx 87 #[v, .int .i64 room, .int .i64 short, .int .i64 fuse]
  own : Own w 89 3 v R.length (rfs R)
  rows : ∀ c ∈ R, Own w 5 1 c.v c.b.length (bys c.b)
def footD (gx : Nat) (v : Value) (R : List RF) : List Nat := gx :: v.ownBlock.toList ++ R.flatMap fun c => c.v.ownBlock.toList
theorem footD_cases {gx : Nat} {v : Value} {R : List RF} {x : Nat} (h : x ∈ footD gx v R) : x = gx ∨ v.ownBlock = some x ∨ ∃ c ∈ R, c.v.ownBlock = some x := by
  simp only [footD, List.cons_append, List.mem_cons, List.mem_append, List.mem_flatMap] at h
  rcases h with h | h | ⟨c, hc, h⟩
  · exact .inl h
  · exact .inr (.inl (by simpa using h))
  · exact .inr (.inr ⟨c, hc, by simpa using h⟩)
theorem footD_row {gx : Nat} {v : Value} {R : List RF} {x : Nat} (h : v.ownBlock = some x) : x ∈ footD gx v R := by simp [footD, h]
theorem footD_own {gx : Nat} {v : Value} {R : List RF} {c : RF} (hc : c ∈ R) {x : Nat} (h : c.v.ownBlock = some x) : x ∈ footD gx v R := by
  simp only [footD, List.cons_append, List.mem_cons, List.mem_append, List.mem_flatMap]
  exact .inr (.inr ⟨c, hc, by simp [h]⟩)
/-- what stands at place k of a row of files -/
theorem rf_cells {w wr : World} {A : Option Addr} {R : List RF} (hrd : Rd w A (rfs R)) {k : Nat} {c : RF} (hc : R[k]? = some c) (hb : Below w.heap.size w wr) :
    ∃ ad, A = some ad ∧ wr.cell? (ad.add (k * 3)) = some (.string c.k) ∧ wr.cell? ⟨(ad.add (k * 3)).block, (ad.add (k * 3)).off + 1, none⟩ = some (.slice c.A c.b.length c.cp) ∧ wr.cell? ⟨(ad.add (k * 3)).block, (ad.add (k * 3)).off + 2, none⟩ = some (.int .i64 (c.syn : Int)) := by
  obtain ⟨ad, rfl, h⟩ := hrd (fun e => by
    have := rfs_length R
    rw [e] at this
    have h2 := (List.getElem?_eq_some_iff.1 hc).1
    simp at this
    omega)
  have c0 := h (k * 3) _ (rfs_get hc 0 (by omega))
  have c1 := h (k * 3 + 1) _ (rfs_get hc 1 (by omega))
  have c2 := h (k * 3 + 2) _ (rfs_get hc 2 (by omega))
  refine ⟨ad, rfl, (hb.cell (World.block_lt_of_cell? w _ c0)).trans c0, ?_, ?_⟩
  · rw [fld_addr ad _ _ (by omega)]
    exact (hb.cell (World.block_lt_of_cell? w _ c1)).trans c1
  · rw [fld_addr ad _ _ (by omega)]
    exact (hb.cell (World.block_lt_of_cell? w _ c2)).trans c2
theorem own_types_ne {w : World} {e e' s s' n n' : Nat} {u u' : Value} {xs xs' : List Value} (h : Own w e s u n xs) (h' : Own w e' s' u' n' xs') (he : e ≠ e') : ∀ g, u.ownBlock = some g → u'.ownBlock ≠ some g := by
  intro g hg hg'
  rcases h.2 with ⟨rfl, _⟩ | ⟨g1, cap, cur, rfl, hh, _⟩
  · cases hg
  · rcases h'.2 with ⟨rfl, _⟩ | ⟨g2, cap', cur', rfl, hh', _⟩
    · cases hg'
    · have e1 : g1 = g := by simpa [Value.ownBlock] using hg
      have e2 : g2 = g := by simpa [Value.ownBlock] using hg'
      subst e1
      subst e2
      rw [hh] at hh'
      injection hh' with hh'
      injection hh' with _ h2
      exact he h2
theorem own_block_ne {w : World} {e s n gc t : Nat} {cs : Array Value} {u : Value} {xs : List Value} (h : Own w e s u n xs) (hb : Blk w gc t cs) (he : e ≠ t) : ∀ g, u.ownBlock = some g → g ≠ gc := by
  intro g hg e1
  rcases h.2 with ⟨rfl, _⟩ | ⟨g1, cap, cur, rfl, hh, _⟩
  · cases hg
  · have e2 : g1 = g := by simpa [Value.ownBlock] using hg
    subst e2
    unfold Blk at hb
    rw [e1, hb] at hh
    injection hh with hh
    injection hh with _ h2
    exact he h2.symm
/-- a cell of what is owned is written, whatever the elements' size -/
theorem Own.setAt {w : World} {e g n cap size : Nat} {xs : List Value} (h : Own w e size (.slice (some ⟨g, 0, none⟩) n cap) n xs) (i : Nat) (u : Value) :
    Own (w.setCell ⟨g, i, none⟩ u) e size (.slice (some ⟨g, 0, none⟩) n cap) n (xs.set i u) := by
  obtain ⟨hl, h⟩ := h
  refine ⟨by simpa using hl, ?_⟩
  rcases h with ⟨h, _⟩ | ⟨g', cap', cur, h, hb, h1, h2, h3, h4⟩
  · cases h
  · injection h with e1 e2 e3
    injection e1 with e1
    injection e1 with e1
    subst e1
    subst e3
    refine .inr ⟨g, cap, cur.setIfInBounds i u, rfl, ?_, h1, h2, by simpa using h3, ?_⟩
    · rw [setCell_eq_setRow w g i cur e (0, 0) u hb]
      exact setRow_heap w g _ _ _ _ hb
    · rw [Array.toList_setIfInBounds, ← h4, List.take_set]
theorem Own.freeAt {w : World} {e g n cap size : Nat} {xs : List Value} (h : Own w e size (.slice (some ⟨g, 0, none⟩) n cap) n xs) (i : Nat) : w.frozen? ⟨g, i, none⟩ = false := by
  rcases h.2 with ⟨h, _⟩ | ⟨g', cap', cur, hv, hb, _⟩
  · cases h
  · injection hv with h1 h2 h3
    injection h1 with h1
    injection h1 with h1
    subst h1
    simp [World.frozen?, hb]
section
variable {w w' : World} {gx : Nat} {v : Value} {R : List RF} {room short fuse : Int}
theorem RdAt.lt (h : RdAt w gx v R room short fuse) {x : Nat} (hx : x ∈ footD gx v R) : x < w.heap.size := by
  rcases footD_cases hx with rfl | hx | ⟨c, hc, hx⟩
  · exact h.blk.lt
  · exact h.own.block_lt hx
  · exact (h.rows c hc).block_lt hx
theorem RdAt.keep (h : RdAt w gx v R room short fuse) {X : List Nat} (hk : Kb w w' X) (hX : ∀ x ∈ footD gx v R, x ∉ X) : RdAt w' gx v R room short fuse :=
  ⟨hk.blk h.blk (hX _ (by simp [footD])), hk.own h.own fun g hg => hX g (footD_row hg), fun c hc => hk.own (h.rows c hc) fun g hg => hX g (footD_own hc hg)⟩
theorem RdAt.below (h : RdAt w gx v R room short fuse) (hb : Below w.heap.size w w') : RdAt w' gx v R room short fuse := h.keep (Kb.of_below hb []) (by simp)
theorem RdAt.row_ne (h : RdAt w gx v R room short fuse) : ∀ g, v.ownBlock = some g → g ≠ gx := own_block_ne h.own h.blk (by decide)
theorem RdAt.own_ne (h : RdAt w gx v R room short fuse) {c : RF} (hc : c ∈ R) : ∀ g, c.v.ownBlock = some g → g ≠ gx ∧ v.ownBlock ≠ some g := fun g hg => ⟨own_block_ne (h.rows c hc) h.blk (by decide) g hg, own_types_ne (h.rows c hc) h.own (by decide) g hg⟩
theorem RdAt.len (h : RdAt w gx v R room short fuse) {g n cap : Nat} (hv : v = .slice (some ⟨g, 0, none⟩) n cap) : n = R.length := by
  rcases h.own.2 with ⟨e, _⟩ | ⟨g', cap', cur, e, _⟩
  · rw [hv] at e; cases e
  · rw [hv] at e; injection e
/-- the bytes of a file are others -/
theorem RdAt.turnb (h : RdAt w gx v R room short fuse) {k : Nat} {c : RF} (hc : R[k]? = some c) {g n cap : Nat} (hv : v = .slice (some ⟨g, 0, none⟩) n cap) {A : Option Addr} {cp : Nat} {b : List UInt8} (ho : Own w 5 1 (.slice A b.length cp) b.length (bys b)) :
    RdAt (w.setCell ⟨g, k * 3 + 1, none⟩ (.slice A b.length cp)) gx v (R.set k ⟨c.k, A, cp, b, c.syn⟩) room short fuse := by
  have hk : Kb w (w.setCell ⟨g, k * 3 + 1, none⟩ (.slice A b.length cp)) [g] := (Kb.refl w _).setCell (by simp) _
  have hgv : v.ownBlock = some g := by rw [hv]; rfl
  refine ⟨hk.blk h.blk (by simpa using (h.row_ne g hgv).symm), ?_, fun d hd => ?_⟩
  · have hn := h.len hv
    have := h.own
    rw [hv, ← hn] at this
    have h2 := Own.setAt this (k * 3 + 1) (.slice A b.length cp)
    rw [rfs_setb hc A cp b] at h2
    rw [hv, List.length_set, ← hn]
    exact h2
  · rcases List.mem_or_eq_of_mem_set hd with hd | rfl
    · refine hk.own (h.rows d hd) fun x hx => ?_
      have := (h.own_ne hd x hx).2
      rw [hgv] at this
      simpa using fun e => this (by rw [e])
    · refine hk.own ho fun x hx => ?_
      have := own_types_ne ho h.own (by decide) x hx
      rw [hgv] at this
      simpa using fun e => this (by rw [e])
/-- how many are synced is another number -/
theorem RdAt.turns (h : RdAt w gx v R room short fuse) {k : Nat} {c : RF} (hc : R[k]? = some c) {g n cap : Nat} (hv : v = .slice (some ⟨g, 0, none⟩) n cap) (s : Nat) :
    RdAt (w.setCell ⟨g, k * 3 + 2, none⟩ (.int .i64 (s : Int))) gx v (R.set k ⟨c.k, c.A, c.cp, c.b, s⟩) room short fuse := by
  have hk : Kb w (w.setCell ⟨g, k * 3 + 2, none⟩ (.int .i64 (s : Int))) [g] := (Kb.refl w _).setCell (by simp) _
  have hgv : v.ownBlock = some g := by rw [hv]; rfl
  refine ⟨hk.blk h.blk (by simpa using (h.row_ne g hgv).symm), ?_, fun d hd => ?_⟩
  · have hn := h.len hv
    have := h.own
    rw [hv, ← hn] at this
    have h2 := Own.setAt this (k * 3 + 2) (.int .i64 (s : Int))
    rw [rfs_sets hc s] at h2
    rw [hv, List.length_set, ← hn]
    exact h2
  · have hd2 : ∃ d' ∈ R, d'.v = d.v ∧ d'.b = d.b := by
      rcases List.mem_or_eq_of_mem_set hd with hd | rfl
      · exact ⟨d, hd, rfl, rfl⟩
      · exact ⟨c, List.mem_of_getElem? hc, rfl, rfl⟩
    obtain ⟨d', hd', e1, e2⟩ := hd2
    rw [← e1, ← e2]
    refine hk.own (h.rows d' hd') fun x hx => ?_
    have := (h.own_ne hd' x hx).2
    rw [hgv] at this
    simpa using fun e => this (by rw [e])
/-- a number of the disk is another one -/
theorem RdAt.num (h : RdAt w gx v R room short fuse) (i : Nat) (u : Value) {room' short' fuse' : Int} (he : (#[v, .int .i64 room, .int .i64 short, .int .i64 fuse] : Array Value).setIfInBounds i u = #[v, .int .i64 room', .int .i64 short', .int .i64 fuse']) :
    RdAt (w.setCell ⟨gx, i, none⟩ u) gx v R room' short' fuse' := by
  have hk : Kb w (w.setCell ⟨gx, i, none⟩ u) [gx] := (Kb.refl w _).setCell (by simp) _
  refine ⟨?_, hk.own h.own fun g hg => by simpa using h.row_ne g hg, fun c hc => hk.own (h.rows c hc) fun g hg => by simpa using (h.own_ne hc g hg).1⟩
  have := h.blk.set_ i u
  rw [he] at this
  exact this
/-- the row, where there is a file -/
theorem RdAt.head (h : RdAt w gx v R room short fuse) (hn : 0 < R.length) : ∃ g cap, v = .slice (some ⟨g, 0, none⟩) R.length cap ∧ R.length ≤ cap ∧ cap ≤ maxLen ∧ ∀ j u, (rfs R)[j]? = some u → w.cell? ⟨g, j, none⟩ = some u := by
  obtain ⟨g, cap, hv, h1, h2⟩ := h.own.head hn
  obtain ⟨A, c', hv2, hrd, _⟩ := h.own.form
  rw [hv] at hv2
  injection hv2 with e1 e2 e3
  subst e1
  refine ⟨g, cap, hv, h1, h2, fun j u hu => ?_⟩
  obtain ⟨ad, e, hc⟩ := hrd (fun e => by rw [e] at hu; simp at hu)
  injection e with e
  subst e
  rw [← add_head]
  exact hc j u hu
end
def idxD (R : List RF) (s : List UInt8) : Nat := R.findIdx fun c => c.k.data.toList == s
theorem rf_at {R : List RF} {s : List UInt8} (h : idxD R s < R.length) : ∃ c, R[idxD R s]? = some c ∧ c.k.data.toList = s := by
  refine ⟨R[idxD R s]'h, List.getElem?_eq_getElem h, ?_⟩
  have h2 := List.findIdx_getElem (p := fun c : RF => c.k.data.toList == s) (xs := R) (w := h)
  show (R[List.findIdx (fun c => c.k.data.toList == s) R]'h).k.data.toList = s
  simpa using h2
theorem look_idx (R : List RF) (s : List UInt8) : look (R.map RF.fl) s = (R[idxD R s]?).map fun c => (c.b, c.syn) := by
  unfold look idxD
  induction R with
  | nil => rfl
  | cons a r ih =>
    rw [List.map_cons, List.find?_cons, List.findIdx_cons]
    by_cases h : a.k.data.toList = s
    · simp [RF.fl, h]
    · have h1 : ((RF.fl a).1 == s) = false := by simpa [RF.fl] using h
      have h2 : (a.k.data.toList == s) = false := by simpa using h
      rw [h1, h2]
      simpa using ih
end Go.Proofs.Ytjmaimpfplojpaa
