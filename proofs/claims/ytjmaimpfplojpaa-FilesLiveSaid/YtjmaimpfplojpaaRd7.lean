/- Words: what a call of the document's disk leaves, in the words of its files alone. -/
import Derived.Test.YtjmaimpfplojpaaRd6
namespace Go.Proofs.Ytjmaimpfplojpaa
open Go.RowKit Go.Maps
set_option linter.unusedSimpArgs false
set_option linter.unusedVariables false
set_option maxRecDepth 100000

def insF (x : Fl) : List Fl → List Fl
  | [] => [x]
  | f :: r => if x.1 < f.1 then x :: f :: r else f :: insF x r
theorem insF_perm (x : Fl) (T : List Fl) : (insF x T).Perm (x :: T) := by
  induction T with
  | nil => exact List.Perm.refl _
  | cons f r ih =>
    unfold insF
    split
    · exact List.Perm.refl _
    · exact (ih.cons f).trans (List.Perm.swap x f r)
theorem less_eq : ∀ x y : List UInt8, Op.bytesLess x y = decide (x < y)
  | [], [] => by simp [Op.bytesLess]
  | _ :: _, [] => by simp [Op.bytesLess]
  | [], _ :: _ => by simp [Op.bytesLess]
  | a :: x, b :: y => by
    have h := less_eq x y
    rw [Bool.eq_iff_iff]
    simp [Op.bytesLess, h, List.cons_lt_cons_iff]
theorem gtK_lt (a b : ByteArray) : gtK a b = decide (b.data.toList < a.data.toList) := by
  unfold gtK
  rw [Lib.toList_data, Lib.toList_data, less_eq]
  by_cases h : b.data.toList < a.data.toList
  · rw [decide_eq_true h, decide_eq_false (fun h2 => List.lt_asymm h h2)]
    have : a.data.toList ≠ b.data.toList := fun e => List.lt_irrefl _ (e ▸ h)
    simp only [Bool.false_or, beq_eq_false_iff_ne.2 this, Bool.not_false]
  · rw [decide_eq_false h]
    by_cases h2 : a.data.toList = b.data.toList
    · rw [h2]
      simp
    · have h3 : a.data.toList < b.data.toList := by
        by_cases h4 : a.data.toList < b.data.toList
        · exact h4
        · exact absurd (List.le_antisymm (show a.data.toList ≤ b.data.toList from h) (show b.data.toList ≤ a.data.toList from h4)) h2
      rw [decide_eq_true h3]
      rfl
theorem insD_fl (x : RF) (R : List RF) : (insD x R).map RF.fl = insF x.fl (R.map RF.fl) := by
  induction R with
  | nil => rfl
  | cons f r ih =>
    unfold insD
    rw [List.map_cons]
    unfold insF
    have e : (x.fl.1 < f.fl.1) = (x.k.data.toList < f.k.data.toList) := rfl
    rw [gtK_lt]
    by_cases h : x.k.data.toList < f.k.data.toList
    · rw [decide_eq_true h, if_pos rfl, if_pos (by rw [e]; exact h)]
      rfl
    · rw [decide_eq_false h, if_neg (by simp), if_neg (by rw [e]; exact h), List.map_cons, ih]
theorem idx_head (x : RF) (l : List RF) : idxD (x :: l) x.k.data.toList = 0 := by
  unfold idxD
  rw [List.findIdx_cons, beq_self_eq_true]
  rfl
theorem insD_at (x : RF) (R : List RF) (hn : ∀ c ∈ R, c.k.data.toList ≠ x.k.data.toList) : (insD x R)[idxD (insD x R) x.k.data.toList]? = some x := by
  induction R with
  | nil => simp [insD, idxD]
  | cons f r ih =>
    unfold insD
    split
    · rw [idx_head]
      rfl
    · have h1 := hn f (by simp)
      have h2 := ih fun c hc => hn c (by simp [hc])
      unfold idxD at h2 ⊢
      rw [List.findIdx_cons, beq_eq_false_iff_ne.2 h1]
      simpa using h2
theorem insD_set (x y : RF) (hk : y.k.data.toList = x.k.data.toList) (R : List RF) (hn : ∀ c ∈ R, c.k.data.toList ≠ x.k.data.toList) : ((insD x R).set (idxD (insD x R) x.k.data.toList) y).map RF.fl = insF y.fl (R.map RF.fl) := by
  induction R with
  | nil => simp [insD, idxD, insF]
  | cons f r ih =>
    unfold insD
    rw [List.map_cons]
    unfold insF
    have e : (y.fl.1 < f.fl.1) = (x.k.data.toList < f.k.data.toList) := by unfold RF.fl; rw [hk]
    rw [gtK_lt]
    by_cases h : x.k.data.toList < f.k.data.toList
    · rw [decide_eq_true h, if_pos rfl, if_pos (by rw [e]; exact h), idx_head]
      rfl
    · rw [decide_eq_false h, if_neg (by simp), if_neg (by rw [e]; exact h)]
      have h1 := hn f (by simp)
      have h2 := ih fun c hc => hn c (by simp [hc])
      unfold idxD at h2 ⊢
      rw [List.findIdx_cons, beq_eq_false_iff_ne.2 h1]
      simp only [cond_false, List.set_cons_succ, List.map_cons]
      rw [h2]
theorem idx_none {R : List RF} {s : List UInt8} (h : ¬ idxD R s < R.length) : ∀ c ∈ R, c.k.data.toList ≠ s := by
  intro c hc e
  apply h
  unfold idxD
  rw [List.findIdx_lt_length]
  exact ⟨c, hc, by simpa using e⟩
theorem look_none {T : List Fl} {s : List UInt8} : look T s = none ↔ ∀ x ∈ T, x.1 ≠ s := by
  unfold look
  rw [Option.map_eq_none_iff, List.find?_eq_none]
  constructor
  · intro h x hx e
    exact h x hx (by simpa using e)
  · intro h x hx e
    exact h x hx (by simpa using e)
/-- a file at place k is another one, of the same name -/
theorem set_fl {R : List RF} (hp : (R.map RF.fl).Pairwise fun a b => a.1 ≠ b.1) {k : Nat} {c y : RF} (hc : R[k]? = some c) (hk : y.k = c.k) : (R.set k y).map RF.fl = setF (R.map RF.fl) c.k.data.toList y.b y.syn := by
  induction R generalizing k with
  | nil => simp at hc
  | cons a r ih =>
    rw [List.map_cons, List.pairwise_cons] at hp
    unfold setF at ih ⊢
    cases k with
    | zero =>
      simp at hc
      subst hc
      rw [List.set_cons_zero, List.map_cons, List.map_cons, List.map_cons]
      congr 1
      · simp [RF.fl, hk]
      · conv => lhs; rw [← List.map_id (r.map RF.fl)]
        refine List.map_congr_left fun d hd => ?_
        have := hp.1 d hd
        have hne : (d.1 == a.k.data.toList) = false := beq_eq_false_iff_ne.2 fun e => this e.symm
        rw [hne]
        rfl
    | succ k =>
      rw [List.set_cons_succ, List.map_cons, List.map_cons, List.map_cons, ih hp.2 (by simpa using hc)]
      congr 1
      have hm : c ∈ r := List.mem_of_getElem? (by simpa using hc : r[k]? = some c)
      have := hp.1 (RF.fl c) (List.mem_map.2 ⟨c, hm, rfl⟩)
      have hne : ((RF.fl a).1 == c.k.data.toList) = false := beq_eq_false_iff_ne.2 this
      rw [hne]
      rfl
theorem keepD_fl (s : List UInt8) (R : List RF) : (keepD s R).map RF.fl = delF (R.map RF.fl) s := by
  unfold keepD delF
  rw [List.filter_map]
  rfl
theorem usedR_mem {R : List RF} {c : RF} (h : c ∈ R) : c.b.length ≤ usedR R := by
  unfold usedR
  induction R with
  | nil => cases h
  | cons a r ih =>
    rw [List.map_cons, List.sum_cons]
    rcases List.mem_cons.1 h with rfl | h
    · omega
    · have := ih h
      omega
theorem rdB_gx {w w' : World} {gx : Nat} {v : Value} {R : List RF} {room short fuse : Int} {A : Option Addr} {b : List UInt8} (hD : RdAt w gx v R room short fuse) (hr : RdB w A b) (hk : Kb w w' [gx]) : RdB w' A b := by
  intro k hk'
  obtain ⟨ad, e, hc⟩ := hr k hk'
  refine ⟨ad, e, ?_⟩
  have hne : (ad.add k).block ≠ gx := by
    intro e2
    have hb := hD.blk
    obtain ⟨A7, c7, hv7, _⟩ := hD.own.form
    rw [hv7] at hb
    unfold Blk at hb
    unfold World.cell? at hc
    rw [e2, hb] at hc
    simp only at hc
    split at hc
    · cases hc
    · have hm := Array.mem_of_getElem? hc
      simp at hm
  have hlt := World.block_lt_of_cell? w _ hc
  have hbl := hk.block (ad.add k).block hlt (by simpa using hne)
  unfold World.cell? at hc ⊢
  rw [hbl]
  exact hc
theorem Kb.fresh {w w' : World} {L L' : List Nat} (h : Kb w w' L) (hL : ∀ x ∈ L, x ∈ L' ∨ w.heap.size ≤ x) : Kb w w' L' :=
  ⟨h.os, h.tape, h.output, h.size, fun b hb hn => h.block b hb fun e => (hL b e).elim hn fun hle => Nat.lt_irrefl _ (Nat.lt_of_lt_of_le hb hle)⟩
/-- what a call leaves: files of other names, bytes; blocks of the disk's own, or new ones -/
structure AfterD (w w' : World) (gx : Nat) (v : Value) (R : List RF) (T' : List Fl) (room short fuse : Int) : Prop where
  disk : ∃ v' R', RdAt w' gx v' R' room short fuse ∧ R'.map RF.fl = T' ∧ ∀ x ∈ footD gx v' R', x ∈ footD gx v R ∨ w.heap.size ≤ x
  kept : Kb w w' (footD gx v R)
section
variable {w w' : World} {gx : Nat} {v : Value} {R : List RF} {room short fuse : Int}
theorem AfterD.same {L : List Nat} {room' short' fuse' : Int} (h : RdAt w' gx v R room' short' fuse') (hk : Kb w w' L) (hL : ∀ x ∈ L, x ∈ footD gx v R) : AfterD w w' gx v R (R.map RF.fl) room' short' fuse' :=
  ⟨⟨v, R, h, rfl, fun x hx => .inl hx⟩, hk.mono hL⟩
theorem gx_foot : gx ∈ footD gx v R := by simp [footD]
theorem AfterD.num {room' short' fuse' : Int} (h : RdAt w' gx v R room' short' fuse') (hk : Kb w w' [gx]) : AfterD w w' gx v R (R.map RF.fl) room' short' fuse' :=
  AfterD.same h hk (by simp [footD])
/-- one row of bytes is another one -/
theorem AfterD.set {room' short' fuse' : Int} {R' : List RF} {T' : List Fl} {v' : Value} (h : RdAt w' gx v' R' room' short' fuse') (hT : R'.map RF.fl = T') (hk : Kb w w' (footD gx v R)) (hv : ∀ g, v'.ownBlock = some g → v.ownBlock = some g ∨ w.heap.size ≤ g)
    (hr : ∀ c ∈ R', ∀ g, c.v.ownBlock = some g → g ∈ footD gx v R ∨ w.heap.size ≤ g) : AfterD w w' gx v R T' room' short' fuse' :=
  ⟨⟨v', R', h, hT, fun x hx => by
    rcases footD_cases hx with rfl | hx | ⟨c, hc, hx⟩
    · exact .inl gx_foot
    · exact (hv x hx).elim (fun h => .inl (footD_row h)) .inr
    · exact hr c hc x hx⟩, hk⟩
end
end Go.Proofs.Ytjmaimpfplojpaa
