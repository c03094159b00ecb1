/- Walks: the document's net: Dial, Take, Addr. -/
import Derived.Test.YtdnbdmffaoimgaaRefN
import Derived.Test.YtdnbdmffaoimgaaNetP
import Derived.Deep.RegionLaw
namespace Go.Proofs.Ytdnbdmffaoimgaa
open Go.RowKit Go.Maps
set_option linter.unusedSimpArgs false
set_option linter.unusedVariables false
set_option maxRecDepth 100000

/-- a cell of what is owned is written, whatever the elements' size -/
theorem Own.set_ {w : World} {e g n cap size : Nat} {xs : List Value} (h : Own w e size (.slice (some ⟨g, 0, none⟩) n cap) n xs) (i : Nat) (u : Value) :
    Own (w.setCell ⟨g, i, none⟩ u) e size (.slice (some ⟨g, 0, none⟩) n cap) n (xs.set i u) := by
  obtain ⟨hl, h⟩ := h
  refine ⟨by simpa using hl, ?_⟩
  rcases h with ⟨h, _⟩ | ⟨g', cap', cur, h, hb, h1, h2, h3, h4⟩
  · cases h
  · injection h with e1 e2 e3
    injection e1 with e1
    injection e1 with e1
    subst e1
    subst e3
    refine .inr ⟨g, cap, cur.setIfInBounds i u, rfl, ?_, h1, h2, by simpa using h3, ?_⟩
    · rw [setCell_eq_setRow w g i cur e (0, 0) u hb]
      exact setRow_heap w g _ _ _ _ hb
    · rw [Array.toList_setIfInBounds, ← h4, List.take_set]
theorem Own.free_ {w : World} {e g n cap size : Nat} {xs : List Value} (h : Own w e size (.slice (some ⟨g, 0, none⟩) n cap) n xs) (i : Nat) : w.frozen? ⟨g, i, none⟩ = false := by
  rcases h.2 with ⟨h, _⟩ | ⟨g', cap', cur, hv, hb, _⟩
  · cases h
  · injection hv with h1 h2 h3
    injection h1 with h1
    injection h1 with h1
    subst h1
    simp [World.frozen?, hb]
theorem rcs_set {R : List RC} {k : Nat} {c : RC} (h : R[k]? = some c) (A : Option Addr) (cp : Nat) (b : List UInt8) : (rcs R).set (k * 3 + 2) (.slice A b.length cp) = rcs (R.set k ⟨c.id, c.addr, A, cp, b⟩) := by
  induction R generalizing k with
  | nil => simp at h
  | cons a r ih =>
    have e : ∀ (x : RC) (l : List RC), rcs (x :: l) = .int .i64 x.id :: .int .i64 x.addr :: x.v :: rcs l := fun x l => rfl
    cases k with
    | zero =>
      simp at h
      subst h
      rw [List.set_cons_zero, e, e]
      rfl
    | succ k =>
      rw [List.set_cons_succ, e, e, show (k + 1) * 3 + 2 = (k * 3 + 2) + 1 + 1 + 1 by omega, List.set_cons_succ, List.set_cons_succ, List.set_cons_succ, ih (by simpa using h)]
theorem rcs_append (R S : List RC) : rcs (R ++ S) = rcs R ++ rcs S := by simp [rcs]
def footR (gx : Nat) (v : Value) (R : List RC) : List Nat := gx :: v.ownBlock.toList ++ R.flatMap fun c => c.v.ownBlock.toList
theorem footR_cases {gx : Nat} {v : Value} {R : List RC} {x : Nat} (h : x ∈ footR gx v R) : x = gx ∨ v.ownBlock = some x ∨ ∃ c ∈ R, c.v.ownBlock = some x := by
  simp only [footR, List.cons_append, List.mem_cons, List.mem_append, List.mem_flatMap] at h
  rcases h with h | h | ⟨c, hc, h⟩
  · exact .inl h
  · exact .inr (.inl (by simpa using h))
  · exact .inr (.inr ⟨c, hc, by simpa using h⟩)
theorem footR_row {gx : Nat} {v : Value} {R : List RC} {x : Nat} (h : v.ownBlock = some x) : x ∈ footR gx v R := by simp [footR, h]
theorem footR_own {gx : Nat} {v : Value} {R : List RC} {c : RC} (hc : c ∈ R) {x : Nat} (h : c.v.ownBlock = some x) : x ∈ footR gx v R := by
  simp only [footR, List.cons_append, List.mem_cons, List.mem_append, List.mem_flatMap]
  exact .inr (.inr ⟨c, hc, by simp [h]⟩)
section
variable {w w' : World} {gx last : Nat} {v : Value} {R : List RC}
theorem RefAt.lt (h : RefAt w gx v last R) {x : Nat} (hx : x ∈ footR gx v R) : x < w.heap.size := by
  rcases footR_cases hx with rfl | hx | ⟨c, hc, hx⟩
  · exact h.blk.lt
  · exact h.own.block_lt hx
  · exact (h.rows c hc).block_lt hx
theorem RefAt.keep (h : RefAt w gx v last R) {X : List Nat} (hk : Kb w w' X) (hX : ∀ x ∈ footR gx v R, x ∉ X) : RefAt w' gx v last R :=
  ⟨hk.blk h.blk (hX _ (by simp [footR])), hk.own h.own fun g hg => hX g (footR_row hg), fun c hc => hk.own (h.rows c hc) fun g hg => hX g (footR_own hc hg)⟩
theorem own_type_ne {w : World} {e e' s s' n n' : Nat} {u u' : Value} {xs xs' : List Value} (h : Own w e s u n xs) (h' : Own w e' s' u' n' xs') (he : e ≠ e') : ∀ g, u.ownBlock = some g → u'.ownBlock ≠ some g := by
  intro g hg hg'
  rcases h.2 with ⟨rfl, _⟩ | ⟨g1, cap, cur, rfl, hh, _⟩
  · cases hg
  · rcases h'.2 with ⟨rfl, _⟩ | ⟨g2, cap', cur', rfl, hh', _⟩
    · cases hg'
    · have e1 : g1 = g := by simpa [Value.ownBlock] using hg
      have e2 : g2 = g := by simpa [Value.ownBlock] using hg'
      subst e1
      subst e2
      rw [hh] at hh'
      injection hh' with hh'
      injection hh' with _ h2
      exact he h2
theorem own_blk_ne {w : World} {e s n gc t : Nat} {cs : Array Value} {u : Value} {xs : List Value} (h : Own w e s u n xs) (hb : Blk w gc t cs) (he : e ≠ t) : ∀ g, u.ownBlock = some g → g ≠ gc := by
  intro g hg e1
  rcases h.2 with ⟨rfl, _⟩ | ⟨g1, cap, cur, rfl, hh, _⟩
  · cases hg
  · have e2 : g1 = g := by simpa [Value.ownBlock] using hg
    subst e2
    unfold Blk at hb
    rw [e1, hb] at hh
    injection hh with hh
    injection hh with _ h2
    exact he h2.symm
theorem RefAt.row_ne (h : RefAt w gx v last R) : ∀ g, v.ownBlock = some g → g ≠ gx := own_blk_ne h.own h.blk (by decide)
theorem RefAt.own_ne (h : RefAt w gx v last R) {c : RC} (hc : c ∈ R) : ∀ g, c.v.ownBlock = some g → g ≠ gx ∧ v.ownBlock ≠ some g := fun g hg => ⟨own_blk_ne (h.rows c hc) h.blk (by decide) g hg, own_type_ne (h.rows c hc) h.own (by decide) g hg⟩
/-- the row of a connection is another one -/
theorem RefAt.turn (h : RefAt w gx v last R) {k : Nat} {c : RC} (hc : R[k]? = some c) {g n cap : Nat} (hv : v = .slice (some ⟨g, 0, none⟩) n cap) {A : Option Addr} {cp : Nat} {b : List UInt8} (ho : Own w 5 1 (.slice A b.length cp) b.length (bys b)) :
    RefAt (w.setCell ⟨g, k * 3 + 2, none⟩ (.slice A b.length cp)) gx v last (R.set k ⟨c.id, c.addr, A, cp, b⟩) := by
  have hk : Kb w (w.setCell ⟨g, k * 3 + 2, none⟩ (.slice A b.length cp)) [g] := (Kb.refl w _).setCell (by simp) _
  have hgv : v.ownBlock = some g := by rw [hv]; rfl
  refine ⟨hk.blk h.blk (by simpa using (h.row_ne g hgv).symm), ?_, fun d hd => ?_⟩
  · have hn : n = R.length := by
      rcases h.own.2 with ⟨e, _⟩ | ⟨g', cap', cur, e, _⟩
      · rw [hv] at e; cases e
      · rw [hv] at e; injection e
    have := h.own
    rw [hv, ← hn] at this
    have h2 := Own.set_ this (k * 3 + 2) (.slice A b.length cp)
    rw [rcs_set hc A cp b] at h2
    rw [hv, List.length_set, ← hn]
    exact h2
  · rcases List.mem_or_eq_of_mem_set hd with hd | rfl
    · refine hk.own (h.rows d hd) fun x hx => ?_
      have := (h.own_ne hd x hx).2
      rw [hgv] at this
      simpa using fun e => this (by rw [e])
    · refine hk.own ho fun x hx => ?_
      have := own_type_ne ho h.own (by decide) x hx
      rw [hgv] at this
      simpa using fun e => this (by rw [e])
end
theorem rc_at {R : List RC} {id : Int} (h : idx R id < R.length) : ∃ c, R[idx R id]? = some c ∧ c.id = id := by
  refine ⟨R[idx R id]'h, List.getElem?_eq_getElem h, ?_⟩
  have h2 := List.findIdx_getElem (p := fun c : RC => c.id == id) (xs := R) (w := h)
  show (R[List.findIdx (fun c => c.id == id) R]'h).id = id
  simpa using h2
/-- a connection, without its place in memory -/
def RC.abs (c : RC) : Cn := (c.id, c.addr, c.b)
theorem look_abs (R : List RC) (id : Int) : lookC (R.map RC.abs) id = (R[idx R id]?).map RC.abs := by
  unfold lookC idx
  induction R with
  | nil => rfl
  | cons a r ih =>
    rw [List.map_cons, List.find?_cons, List.findIdx_cons]
    by_cases h : a.id = id
    · simp [RC.abs, h]
    · have h1 : ((RC.abs a).1 == id) = false := by simpa [RC.abs] using h
      have h2 : (a.id == id) = false := by simpa using h
      rw [h1, h2]
      simpa using ih
section
variable {w w' : World} {gx last : Nat} {v : Value} {R : List RC}
/-- the row of connections, where there is one -/
theorem RefAt.head (h : RefAt w gx v last R) (hn : 0 < R.length) : ∃ g cap, v = .slice (some ⟨g, 0, none⟩) R.length cap ∧ R.length ≤ cap ∧ cap ≤ maxLen ∧ ∀ j u, (rcs R)[j]? = some u → w.cell? ⟨g, j, none⟩ = some u := by
  obtain ⟨g, cap, hv, h1, h2⟩ := h.own.head hn
  obtain ⟨A, c', hv2, hrd, _⟩ := h.own.form
  rw [hv] at hv2
  injection hv2 with e1 e2 e3
  subst e1
  exact ⟨g, cap, hv, h1, h2, fun j u hu => own_old hrd hu⟩
theorem raddr_calls (hR : RefAt w gx v last R) (id : Int) (hl : R.length < 1000000) :
    Calls Try.prog 20 #[.pointer (some ⟨gx, 0, none⟩), .int .i64 id] w fun e w' => e = .returned (.tuple #[.int .i64 ((lookC (R.map RC.abs) id).elim 0 (·.2.1)), .bool (lookC (R.map RC.abs) id).isSome]) ∧ Below w.heap.size w w' := by
  have HP := Shut.mk (place_calls hR id hl)
  rw [look_abs]
  by_cases hi : idx R id < R.length
  · obtain ⟨c, hc, _⟩ := rc_at hi
    obtain ⟨g, cap, rfl, hnc, hcm, hcell⟩ := hR.head (by omega)
    have HC := Shut.mk (hcell (idx R id * 3 + 1) _ (rcs_get hc 1 (by omega)))
    have HB := Shut.mk hR.blk
    rw [if_pos hi] at HP
    rw [hc]
    unfold maxLen at hcm
    obtain ⟨k, hk⟩ : ∃ k, k = idx R id := ⟨_, rfl⟩
    rw [← hk] at HP HC hi
    have hgl : g < w.heap.size := World.block_lt_of_cell? w _ HC.out
    clear hcell hc hR hk
    go_enter Try.func20, Try.ntmps20
    go_wp2_with fail
    refine HP.out.mono ?_
    rintro e w1 ⟨rfl, hb1⟩
    have c0 : w1.cell? ⟨gx, 0, none⟩ = some (.slice (some ⟨g, 0, none⟩) R.length cap) := (hb1.cell HB.out.lt).trans (HB.out.cell 0)
    have c1 : w1.cell? ⟨g, k * 3 + 1, none⟩ = some (.int .i64 c.addr) := (hb1.cell hgl).trans HC.out
    have hkI : (k : Int) < (R.length : Int) := by omega
    have hk0 : ¬ (k : Int) < 0 := by omega
    have hkm : R.length < 1000000 := hl
    go_wp2_with fail
    go_ret2
    exact ⟨rfl, hb1⟩
  · rw [if_neg hi] at HP
    rw [List.getElem?_eq_none (by omega)]
    clear hR
    go_enter Try.func20, Try.ntmps20
    go_wp2_with fail
    refine HP.out.mono ?_
    rintro e w1 ⟨rfl, hb1⟩
    go_wp2_with fail
    go_ret2
    exact ⟨rfl, hb1⟩
/-- Take: the row goes out, and is no more the net's -/
theorem rtake_calls (hR : RefAt w gx v last R) (id : Int) (hl : R.length < 1000000) {c : RC} (hc : R[idx R id]? = some c) :
    Calls Try.prog 18 #[.pointer (some ⟨gx, 0, none⟩), .int .i64 id] w fun e w' => e = .returned (.tuple #[c.v, .int .i64 0]) ∧ RefAt w' gx v last (R.set (idx R id) ⟨c.id, c.addr, none, 0, []⟩) ∧ Kb w w' (gx :: v.ownBlock.toList) := by
  have HP := Shut.mk (place_calls hR id hl)
  have hi : idx R id < R.length := (List.getElem?_eq_some_iff.1 hc).1
  obtain ⟨g, cap, hv, hnc, hcm, hcell⟩ := hR.head (by omega)
  have HC := Shut.mk (hcell (idx R id * 3 + 2) _ (rcs_get hc 2 (by omega)))
  have HB := Shut.mk hR.blk
  rw [if_pos hi] at HP
  unfold maxLen at hcm
  have HR := Shut.mk hR
  have HX := Shut.mk hc
  have HV := Shut.mk hv
  obtain ⟨k, hk⟩ : ∃ k, k = idx R id := ⟨_, rfl⟩
  rw [← hk] at HP HC hi HX ⊢
  have hgl : g < w.heap.size := World.block_lt_of_cell? w _ HC.out
  clear hcell hc hR hk hv
  go_enter Try.func18, Try.ntmps18
  go_wp2_with fail
  refine HP.out.mono ?_
  rintro e w1 ⟨rfl, hb1⟩
  have hR1 := HR.out.keep (Kb.of_below hb1 []) (by simp)
  have c0 : w1.cell? ⟨gx, 0, none⟩ = some (.slice (some ⟨g, 0, none⟩) R.length cap) := by rw [← HV.out]; exact hR1.blk.cell 0
  have c2 : w1.cell? ⟨g, k * 3 + 2, none⟩ = some (.slice c.A c.b.length c.cp) := (hb1.cell hgl).trans HC.out
  have f2 : w1.frozen? ⟨g, k * 3 + 2, none⟩ = false := by
    have := hR1.own
    rw [HV.out] at this
    exact this.free_ _
  have hT := hR1.turn HX.out HV.out (A := none) (cp := 0) (b := []) (Own.nil _ _ _)
  have hK : Kb w (w1.setCell ⟨g, k * 3 + 2, none⟩ (.slice none 0 0)) (gx :: v.ownBlock.toList) := (Kb.of_below hb1 _).setCell (by rw [HV.out]; simp [Value.ownBlock]) _
  have HT := Shut.mk hT
  have HK := Shut.mk hK
  have hkI : (k : Int) < (R.length : Int) := by omega
  have hk0 : ¬ (k : Int) < 0 := by omega
  have hkm : R.length < 1000000 := hl
  clear hT hK hR1
  go_wp2_with fail
  go_ret2
  exact ⟨rfl, HT.out, HK.out⟩
theorem rtake_none (hR : RefAt w gx v last R) (id : Int) (hl : R.length < 1000000) (hi : ¬ idx R id < R.length) :
    Calls Try.prog 18 #[.pointer (some ⟨gx, 0, none⟩), .int .i64 id] w fun e w' => e = .returned (.tuple #[.slice none 0 0, .int .i64 150]) ∧ Below w.heap.size w w' := by
  have HP := Shut.mk (place_calls hR id hl)
  rw [if_neg hi] at HP
  clear hR
  go_enter Try.func18, Try.ntmps18
  go_wp2_with fail
  refine HP.out.mono ?_
  rintro e w1 ⟨rfl, hb1⟩
  go_wp2_with fail
  go_ret2
  exact ⟨rfl, hb1⟩
theorem rwrite_none (hR : RefAt w gx v last R) (id : Int) (hl : R.length < 1000000) (hi : ¬ idx R id < R.length) (A : Option Addr) (m c : Nat) :
    Calls Try.prog 17 #[.pointer (some ⟨gx, 0, none⟩), .int .i64 id, .slice A m c] w fun e w' => e = .returned (.int .i64 150) ∧ Below w.heap.size w w' := by
  have HP := Shut.mk (place_calls hR id hl)
  rw [if_neg hi] at HP
  clear hR
  go_enter Try.func17, Try.ntmps17
  go_wp2_with fail
  refine HP.out.mono ?_
  rintro e w1 ⟨rfl, hb1⟩
  go_wp2_with fail
  go_ret
  exact ⟨rfl, hb1⟩
theorem rdrop_none (hR : RefAt w gx v last R) (id : Int) (hl : R.length < 1000000) (hi : ¬ idx R id < R.length) :
    Calls Try.prog 19 #[.pointer (some ⟨gx, 0, none⟩), .int .i64 id] w fun e w' => e = .returned (.int .i64 150) ∧ Below w.heap.size w w' := by
  have HP := Shut.mk (place_calls hR id hl)
  rw [if_neg hi] at HP
  clear hR
  go_enter Try.func19, Try.ntmps19
  go_wp2_with fail
  refine HP.out.mono ?_
  rintro e w1 ⟨rfl, hb1⟩
  go_wp2_with fail
  go_ret
  exact ⟨rfl, hb1⟩
end
end Go.Proofs.Ytdnbdmffaoimgaa
