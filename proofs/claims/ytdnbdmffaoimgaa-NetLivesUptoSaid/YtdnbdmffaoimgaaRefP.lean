/- The calls on the document's net in the words of its connections alone. -/
import Derived.Test.YtdnbdmffaoimgaaRefN6
namespace Go.Proofs.Ytdnbdmffaoimgaa
open Go.RowKit Go.Maps
set_option linter.unusedSimpArgs false
set_option linter.unusedVariables false
set_option maxRecDepth 100000

def NR (w : World) (gx : Nat) (G : List Nat) (last : Nat) (L : List Cn) : Prop := ∃ v R, RefAt w gx v last R ∧ R.map RC.abs = L ∧ ∀ x ∈ footR gx v R, x ∈ G
def RStp (w w' : World) (gx : Nat) (G : List Nat) (last : Nat) (L : List Cn) : Prop := ∃ G', NR w' gx G' last L ∧ Kb w w' G ∧ ∀ x ∈ G', x ∈ G ∨ w.heap.size ≤ x
theorem set_abs {R : List RC} (hp : (R.map RC.abs).Pairwise fun c d => c.1 < d.1) {k : Nat} {c : RC} (hc : R[k]? = some c) (A : Option Addr) (cp : Nat) (b : List UInt8) : (R.set k ⟨c.id, c.addr, A, cp, b⟩).map RC.abs = upd (R.map RC.abs) c.id c.addr b := by
  induction R generalizing k with
  | nil => simp at hc
  | cons a r ih =>
    rw [List.map_cons, List.pairwise_cons] at hp
    cases k with
    | zero =>
      simp at hc
      subst hc
      rw [List.set_cons_zero, List.map_cons, List.map_cons]
      unfold upd
      rw [List.map_cons]
      congr 1
      · simp [RC.abs]
      · conv => lhs; rw [← List.map_id (r.map RC.abs)]
        refine List.map_congr_left fun d hd => ?_
        have := hp.1 d hd
        have hne : d.1 ≠ a.id := by simp only [RC.abs] at this; omega
        simp [hne]
    | succ k =>
      rw [List.set_cons_succ, List.map_cons, List.map_cons, ih hp.2 (by simpa using hc)]
      unfold upd
      rw [List.map_cons]
      congr 1
      have hm : c ∈ r := List.mem_of_getElem? (by simpa using hc : r[k]? = some c)
      have := hp.1 (RC.abs c) (List.mem_map.2 ⟨c, hm, rfl⟩)
      have hne : (RC.abs a).1 ≠ c.id := by simp only [RC.abs] at this ⊢; omega
      simp [hne]
theorem erase_abs {R : List RC} (hp : (R.map RC.abs).Pairwise fun c d => c.1 < d.1) {k : Nat} {c : RC} (hc : R[k]? = some c) : (R.take k ++ R.drop (k + 1)).map RC.abs = dr (R.map RC.abs) c.id := by
  induction R generalizing k with
  | nil => simp at hc
  | cons a r ih =>
    rw [List.map_cons, List.pairwise_cons] at hp
    cases k with
    | zero =>
      simp at hc
      subst hc
      simp only [List.take_zero, List.nil_append, Nat.zero_add, List.drop_succ_cons, List.drop_zero, List.map_cons]
      unfold dr
      rw [List.filter_cons, if_neg (by simp [RC.abs]), List.filter_eq_self.2]
      intro d hd
      have := hp.1 d hd
      have hne : d.1 ≠ a.id := by simp only [RC.abs] at this; omega
      simpa using hne
    | succ k =>
      have hm : c ∈ r := List.mem_of_getElem? (by simpa using hc : r[k]? = some c)
      have := hp.1 (RC.abs c) (List.mem_map.2 ⟨c, hm, rfl⟩)
      have hne : (RC.abs a).1 ≠ c.id := by simp only [RC.abs] at this ⊢; omega
      rw [List.take_succ_cons, List.drop_succ_cons, List.cons_append, List.map_cons, ih hp.2 (by simpa using hc), List.map_cons]
      unfold dr
      rw [List.filter_cons, if_pos (by simpa using hne)]
section
variable {w w' : World} {gx last : Nat} {G : List Nat} {L : List Cn}
theorem NR.kept (h : NR w gx G last L) {X : List Nat} (hk : Kb w w' X) (hX : ∀ x ∈ G, x ∉ X) : NR w' gx G last L := by
  obtain ⟨v, R, h1, h2, h3⟩ := h
  exact ⟨v, R, h1.keep hk fun x hx => hX x (h3 x hx), h2, h3⟩
theorem NR.below (h : NR w gx G last L) (hb : Below w.heap.size w w') : NR w' gx G last L := h.kept (Kb.of_below hb []) (by simp)
theorem NR.tight (h : NR w gx G last L) : ∃ G0, NR w gx G0 last L ∧ (∀ x ∈ G0, x ∈ G) ∧ ∀ x ∈ G0, x < w.heap.size := by
  obtain ⟨v, R, h1, h2, h3⟩ := h
  exact ⟨_, ⟨v, R, h1, h2, fun x hx => hx⟩, h3, fun x hx => h1.lt hx⟩
theorem nr_new (w : World) : NR (w.alloc (.cells #[.slice none 0 0, .int .i64 0] 53)) w.heap.size [w.heap.size] 0 [] :=
  ⟨.slice none 0 0, [], ⟨Blk.new w _ _, Own.nil _ _ _, fun c hc => (by cases hc)⟩, rfl, fun x hx => (by simpa [footR, Value.ownBlock] using hx)⟩
theorem RStp.of {v v' : Value} {R R' : List RC} {last' : Nat} (h : RefAt w gx v last R) (hG : ∀ x ∈ footR gx v R, x ∈ G) (h' : RefAt w' gx v' last' R') (hk : Kb w w' (gx :: v.ownBlock.toList)) (hL : R'.map RC.abs = L) (hf : ∀ x ∈ footR gx v' R', x ∈ footR gx v R ∨ w.heap.size ≤ x) : RStp w w' gx G last' L := by
  refine ⟨_, ⟨v', R', h', hL, fun x hx => hx⟩, hk.mono fun x hx => hG x ?_, fun x hx => (hf x hx).elim (fun h => .inl (hG x h)) .inr⟩
  rcases List.mem_cons.1 hx with rfl | hx
  · simp [footR]
  · exact footR_row (by simpa using hx)
theorem nr_dial (h : NR w gx G last L) (a : Int) (h1 : 0 ≤ a) (h2 : a ≤ 4294967295) (hl : last < 1000000000) (hn : L.length < 1000000) :
    Calls Try.prog 16 #[.pointer (some ⟨gx, 0, none⟩), .int .i64 a] w fun e w' => e = .returned (.tuple #[.int .i64 ((last : Int) + 1), .int .i64 0]) ∧ RStp w w' gx G (last + 1) (L ++ [((last : Int) + 1, a, [])]) := by
  obtain ⟨v, R, hR, rfl, hG⟩ := h
  rw [List.length_map] at hn
  refine (rdial_calls hR a h1 h2 hl hn).mono ?_
  rintro e w' ⟨rfl, v', hR', hk, hv⟩
  refine ⟨rfl, RStp.of hR hG hR' hk (by simp [RC.abs]) fun x hx => ?_⟩
  rcases footR_cases hx with rfl | hx | ⟨c, hc, hx⟩
  · exact .inl (by simp [footR])
  · exact (hv x hx).elim (fun h => .inl (footR_row h)) .inr
  · rcases List.mem_append.1 hc with hc | hc
    · exact .inl (footR_own hc hx)
    · rw [List.mem_singleton.1 hc] at hx
      cases hx
theorem abs_at {R : List RC} {a ad : Int} {l : List UInt8} (h : lookC (R.map RC.abs) a = some (a, ad, l)) : ∃ c, R[idx R a]? = some c ∧ c.id = a ∧ c.addr = ad ∧ c.b = l := by
  rw [look_abs] at h
  cases hc : R[idx R a]? with
  | none => rw [hc] at h; cases h
  | some c =>
    rw [hc] at h
    have h' : (c.id, c.addr, c.b) = (a, ad, l) := Option.some.inj h
    injection h' with e1 e2
    injection e2 with e2 e3
    exact ⟨c, rfl, e1, e2, e3⟩
theorem abs_none {R : List RC} {a : Int} (h : lookC (R.map RC.abs) a = none) : ¬ idx R a < R.length := by
  rw [look_abs] at h
  intro hi
  rw [List.getElem?_eq_getElem hi] at h
  cases h
theorem nr_write (h : NR w gx G last L) (hp : L.Pairwise fun c d => c.1 < d.1) (hn : L.length < 1000000) (a : Int) {ad : Int} {l : List UInt8} (hc : lookC L a = some (a, ad, l)) (A : Option Addr) (m c : Nat) (b : List UInt8) (hr : RdB w A b) (hm : b.length = m) (hl : l.length + m ≤ reach) :
    Calls Try.prog 17 #[.pointer (some ⟨gx, 0, none⟩), .int .i64 a, .slice A m c] w fun e w' => e = .returned (.int .i64 0) ∧ RStp w w' gx G last (upd L a ad (l ++ b)) := by
  obtain ⟨v, R, hR, rfl, hG⟩ := h
  rw [List.length_map] at hn
  obtain ⟨cc, hcc, rfl, rfl, rfl⟩ := abs_at hc
  refine (rwrite_calls hR cc.id hn hcc A m c b hr hm hl).mono ?_
  rintro e w' ⟨rfl, A8, c8, hR', hk, hv⟩
  refine ⟨rfl, RStp.of hR hG hR' hk (set_abs hp hcc _ _ _) fun x hx => ?_⟩
  rcases footR_cases hx with rfl | hx | ⟨d, hd, hx⟩
  · exact .inl (by simp [footR])
  · exact .inl (footR_row hx)
  · rcases List.mem_or_eq_of_mem_set hd with hd | rfl
    · exact .inl (footR_own hd hx)
    · exact .inr (hv x hx)
theorem nr_write_none (h : NR w gx G last L) (hn : L.length < 1000000) (a : Int) (hc : lookC L a = none) (A : Option Addr) (m c : Nat) :
    Calls Try.prog 17 #[.pointer (some ⟨gx, 0, none⟩), .int .i64 a, .slice A m c] w fun e w' => e = .returned (.int .i64 150) ∧ Below w.heap.size w w' := by
  obtain ⟨v, R, hR, rfl, hG⟩ := h
  rw [List.length_map] at hn
  exact rwrite_none hR a hn (abs_none hc) A m c
theorem nr_take (h : NR w gx G last L) (hp : L.Pairwise fun c d => c.1 < d.1) (hn : L.length < 1000000) (a : Int) {ad : Int} {l : List UInt8} (hc : lookC L a = some (a, ad, l)) :
    Calls Try.prog 18 #[.pointer (some ⟨gx, 0, none⟩), .int .i64 a] w fun e w' => ∃ A c, e = .returned (.tuple #[.slice A l.length c, .int .i64 0]) ∧ RdB w' A l ∧ RStp w w' gx G last (upd L a ad []) := by
  obtain ⟨v, R, hR, rfl, hG⟩ := h
  rw [List.length_map] at hn
  obtain ⟨cc, hcc, rfl, rfl, rfl⟩ := abs_at hc
  refine (rtake_calls hR cc.id hn hcc).mono ?_
  rintro e w' ⟨rfl, hR', hk⟩
  have hm := List.mem_of_getElem? hcc
  have ho := hk.own (hR.rows cc hm) fun g hg => by
    obtain ⟨h8, h9⟩ := hR.own_ne hm g hg
    simp only [List.mem_cons, Option.mem_toList, not_or]
    exact ⟨h8, fun e => h9 e⟩
  obtain ⟨A9, c9, e9, hr9⟩ := ho.rdB
  have : cc.A = A9 := by unfold RC.v at e9; injection e9
  refine ⟨cc.A, cc.cp, rfl, this ▸ hr9, RStp.of hR hG hR' hk (set_abs hp hcc _ _ _) fun x hx => ?_⟩
  rcases footR_cases hx with rfl | hx | ⟨d, hd, hx⟩
  · exact .inl (by simp [footR])
  · exact .inl (footR_row hx)
  · rcases List.mem_or_eq_of_mem_set hd with hd | rfl
    · exact .inl (footR_own hd hx)
    · cases hx
theorem nr_take_none (h : NR w gx G last L) (hn : L.length < 1000000) (a : Int) (hc : lookC L a = none) :
    Calls Try.prog 18 #[.pointer (some ⟨gx, 0, none⟩), .int .i64 a] w fun e w' => e = .returned (.tuple #[.slice none 0 0, .int .i64 150]) ∧ Below w.heap.size w w' := by
  obtain ⟨v, R, hR, rfl, hG⟩ := h
  rw [List.length_map] at hn
  exact rtake_none hR a hn (abs_none hc)
theorem nr_drop (h : NR w gx G last L) (hp : L.Pairwise fun c d => c.1 < d.1) (hn : L.length < 1000000) (a : Int) {ad : Int} {l : List UInt8} (hc : lookC L a = some (a, ad, l)) :
    Calls Try.prog 19 #[.pointer (some ⟨gx, 0, none⟩), .int .i64 a] w fun e w' => e = .returned (.int .i64 0) ∧ RStp w w' gx G last (dr L a) := by
  obtain ⟨v, R, hR, rfl, hG⟩ := h
  rw [List.length_map] at hn
  obtain ⟨cc, hcc, rfl, rfl, rfl⟩ := abs_at hc
  refine (rdrop_calls hR cc.id hn hcc).mono ?_
  rintro e w' ⟨rfl, v', hR', hk, hv⟩
  refine ⟨rfl, RStp.of hR hG hR' hk (erase_abs hp hcc) fun x hx => ?_⟩
  rcases footR_cases hx with rfl | hx | ⟨d, hd, hx⟩
  · exact .inl (by simp [footR])
  · exact .inr (hv x hx)
  · refine .inl (footR_own (c := d) ?_ hx)
    rcases List.mem_append.1 hd with hd | hd
    · exact List.mem_of_mem_take hd
    · exact List.mem_of_mem_drop hd
theorem nr_drop_none (h : NR w gx G last L) (hn : L.length < 1000000) (a : Int) (hc : lookC L a = none) :
    Calls Try.prog 19 #[.pointer (some ⟨gx, 0, none⟩), .int .i64 a] w fun e w' => e = .returned (.int .i64 150) ∧ Below w.heap.size w w' := by
  obtain ⟨v, R, hR, rfl, hG⟩ := h
  rw [List.length_map] at hn
  exact rdrop_none hR a hn (abs_none hc)
theorem nr_addr (h : NR w gx G last L) (hn : L.length < 1000000) (a : Int) :
    Calls Try.prog 20 #[.pointer (some ⟨gx, 0, none⟩), .int .i64 a] w fun e w' => e = .returned (.tuple #[.int .i64 ((lookC L a).elim 0 (·.2.1)), .bool (lookC L a).isSome]) ∧ Below w.heap.size w w' := by
  obtain ⟨v, R, hR, rfl, hG⟩ := h
  rw [List.length_map] at hn
  exact raddr_calls hR a hn
theorem nr_conns (h : NR w gx G last L) (hn : L.length < 1000000) :
    Calls Try.prog 21 #[.pointer (some ⟨gx, 0, none⟩)] w fun e w' => ∃ v, e = .returned v ∧ Own w' 3 1 v (L.map (·.1)).length ((L.map (·.1)).map Go.encZ) ∧ Below w.heap.size w w' ∧ ∀ g, v.ownBlock = some g → w.heap.size ≤ g := by
  obtain ⟨v, R, hR, rfl, hG⟩ := h
  rw [List.length_map] at hn
  have e : (R.map RC.abs).map (·.1) = R.map (·.id) := by rw [List.map_map]; rfl
  rw [e]
  exact rconns_calls hR hn
end
end Go.Proofs.Ytdnbdmffaoimgaa
