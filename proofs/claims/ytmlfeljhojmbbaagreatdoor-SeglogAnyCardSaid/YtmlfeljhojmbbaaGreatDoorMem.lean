/- Words for memory: slices that are read, slices that a call owns (whatever lies behind their capacity), and what append makes of them. -/
import Derived.Test.YtmlfeljhojmbbaaGreatDoorProg
import Derived.WalkKit
import Derived.Deep.Draws
import Derived.Lib.Hide
import Derived.WalkSpells
namespace Go.Proofs.YtmlfeljhojmbbaaGreatDoor
open Go.RowKit
set_option linter.unusedSimpArgs false
set_option linter.unusedVariables false
set_option maxRecDepth 100000

/-- a fact that neither the walk nor 'contradiction' looks into -/
structure Shut (p : Prop) : Prop where
  out : p

/-! ### slices that are read -/
/-- the address A holds the bytes l (whatever it is, if there are none) -/
def RdB (w : World) (A : Option Addr) (l : List UInt8) : Prop :=
  ∀ k, k < l.length → ∃ ad, A = some ad ∧ w.cell? (ad.add k) = some (.int .u8 ((l.getD k 0).toNat : Int))
def bys (l : List UInt8) : List Value := l.map fun x => .int .u8 (x.toNat : Int)
theorem bys_length (l : List UInt8) : (bys l).length = l.length := by simp [bys]
theorem bys_append (l r : List UInt8) : bys (l ++ r) = bys l ++ bys r := by simp [bys]
theorem bys_get (l : List UInt8) (k : Nat) (h : k < l.length) : (bys l)[k]? = some (.int .u8 ((l.getD k 0).toNat : Int)) := by
  simp [bys, List.getElem?_eq_getElem h, List.getD_eq_getElem?_getD]
theorem bys_one (l : List UInt8) : ∀ u ∈ bys l, u.oneCell' = true := by
  intro u hu
  simp only [bys, List.mem_map] at hu
  obtain ⟨x, _, rfl⟩ := hu
  rfl
theorem bys_take (l : List UInt8) (k : Nat) : bys (l.take k) = (bys l).take k := by simp [bys, List.map_take]
theorem bys_drop (l : List UInt8) (k : Nat) : bys (l.drop k) = (bys l).drop k := by simp [bys, List.map_drop]
theorem bys_set (l : List UInt8) (i : Nat) (x : UInt8) : bys (l.set i x) = (bys l).set i (.int .u8 (x.toNat : Int)) := by simp [bys, List.map_set]
theorem bys_inj {l r : List UInt8} (h : bys l = bys r) : l = r := by
  unfold bys at h
  refine List.map_inj_right (fun x y hxy => ?_) |>.1 h
  have h1 : (x.toNat : Int) = (y.toNat : Int) := by injection hxy
  exact UInt8.toNat_inj.1 (by omega)
theorem take_snoc {α : Type} (l : List α) (k : Nat) (h : k < l.length) (d : α) : l.take (k + 1) = l.take k ++ [l.getD k d] := by
  rw [List.take_succ_eq_append_getElem h]; simp [List.getD_eq_getElem?_getD, List.getElem?_eq_getElem h]

theorem block_of_add (a : Addr) (n : Nat) : (a.add n).block = a.block := by unfold Addr.add; split <;> rfl
theorem add_of_add (a : Addr) (i j : Nat) : (a.add i).add j = a.add (i + j) := by
  unfold Addr.add
  by_cases hi : i = 0 <;> by_cases hj : j = 0 <;> simp [hi, hj, Nat.add_assoc]
theorem add_head (g j : Nat) : (⟨g, 0, none⟩ : Addr).add j = ⟨g, j, none⟩ := by unfold Addr.add; split <;> simp_all

/-- A holds the cells xs -/
def Rd (w : World) (A : Option Addr) (xs : List Value) : Prop := xs ≠ [] → ∃ ad, A = some ad ∧ ∀ j u, xs[j]? = some u → w.cell? (ad.add j) = some u
theorem Rd.nil (w : World) (A : Option Addr) : Rd w A [] := fun h => absurd rfl h
theorem rd_of_rdB {w : World} {A : Option Addr} {l : List UInt8} (h : RdB w A l) : Rd w A (bys l) := by
  intro hne
  have hl : 0 < l.length := by
    rcases l with _ | ⟨x, l⟩
    · exact absurd rfl hne
    · simp
  obtain ⟨ad, rfl, _⟩ := h 0 hl
  refine ⟨ad, rfl, fun j u hu => ?_⟩
  have hj : j < l.length := by
    have := (List.getElem?_eq_some_iff.1 hu).1
    rwa [bys_length] at this
  obtain ⟨ad', e, hc⟩ := h j hj
  injection e with e
  subst e
  rw [bys_get l j hj] at hu
  rw [hc, ← hu]
theorem rdB_of_rd {w : World} {A : Option Addr} {l : List UInt8} (h : Rd w A (bys l)) : RdB w A l := by
  intro k hk
  have hne : bys l ≠ [] := fun e => by
    have h1 := congrArg List.length e
    rw [bys_length] at h1
    have h2 : l.length = 0 := h1
    omega
  obtain ⟨ad, rfl, hc⟩ := h hne
  exact ⟨ad, rfl, hc k _ (bys_get l k hk)⟩
/-- what a slice holds lies in blocks that stay -/
def Stays (w w' : World) (S : Nat → Prop) : Prop := ∀ b, b < w.heap.size → S b → w'.heap[b]? = w.heap[b]?

/-! ### slices that a call owns -/
def Own (w : World) (e : TypeId) (size : Nat) (v : Value) (n : Nat) (xs : List Value) : Prop :=
  xs.length = n * size ∧ ((v = .slice none 0 0 ∧ n = 0) ∨
    ∃ g cap cur, v = .slice (some ⟨g, 0, none⟩) n cap ∧ w.heap[g]? = some (.cells cur e (0, 0)) ∧ n ≤ cap ∧ cap ≤ maxLen ∧ cap * size ≤ cur.size ∧ cur.toList.take (n * size) = xs)
theorem Own.nil (w : World) (e size : Nat) : Own w e size (.slice none 0 0) 0 [] := ⟨by simp, .inl ⟨rfl, rfl⟩⟩
section
variable {w w' : World} {e size n : Nat} {v : Value} {xs : List Value}
theorem Own.form (h : Own w e size v n xs) : ∃ A cap, v = .slice A n cap ∧ Rd w A xs ∧ n ≤ cap ∧ cap ≤ maxLen ∧ v.ownBlock = A.map (·.block) ∧ (A = none → n = 0 ∧ cap = 0) := by
  obtain ⟨hl, h⟩ := h
  rcases h with ⟨rfl, rfl⟩ | ⟨g, cap, cur, rfl, hg, hnc, hcm, hcs, ht⟩
  · exact ⟨none, 0, rfl, fun hne => absurd (List.eq_nil_of_length_eq_zero (by simpa using hl)) hne, Nat.le_refl _, by simp [maxLen], rfl, fun _ => ⟨rfl, rfl⟩⟩
  · refine ⟨some ⟨g, 0, none⟩, cap, rfl, fun _ => ⟨_, rfl, fun j u hu => ?_⟩, hnc, hcm, rfl, fun h => by cases h⟩
    rw [add_head, cell_of_row w g j cur e (0, 0) hg]
    rw [← ht, List.getElem?_take] at hu
    split at hu
    · simpa using hu
    · cases hu
theorem Own.len (h : Own w e size v n xs) : xs.length = n * size := h.1
theorem Own.block_lt (h : Own w e size v n xs) {g : Nat} (hg : v.ownBlock = some g) : g < w.heap.size := by
  obtain ⟨_, h⟩ := h
  rcases h with ⟨rfl, rfl⟩ | ⟨g', cap, cur, rfl, hb, _⟩
  · simp [Value.ownBlock] at hg
  · simp [Value.ownBlock] at hg
    subst hg
    exact (Array.getElem?_eq_some_iff.1 hb).1
theorem Own.keep (h : Own w e size v n xs) (hk : ∀ g, v.ownBlock = some g → w'.heap[g]? = w.heap[g]?) : Own w' e size v n xs := by
  obtain ⟨hl, h⟩ := h
  refine ⟨hl, ?_⟩
  rcases h with h | ⟨g, cap, cur, rfl, hb, r⟩
  · exact .inl h
  · exact .inr ⟨g, cap, cur, rfl, (hk g rfl).trans hb, r⟩
theorem Own.grown (h : Own w e size v n xs) {row : Option Nat} (hg : w.grownBy w' row) (hne : ∀ g, v.ownBlock = some g → row ≠ some g) : Own w' e size v n xs :=
  h.keep fun g hv => hg.block g (h.block_lt hv) (fun e => hne g hv e.symm)
theorem Own.other (h : Own w e size v n xs) {r : Nat} (hg : w.grownBy w' (some r)) (hne : ∀ g, v.ownBlock = some g → g ≠ r) : Own w' e size v n xs :=
  h.grown hg (fun g hv e => hne g hv (by injection e with e; exact e.symm))
theorem Own.alloc (h : Own w e size v n xs) (o : Obj) : Own (w.alloc o) e size v n xs := h.grown (World.grownBy_alloc w o none) (by simp)
theorem Own.drew (h : Own w e size v n xs) : Own w.drew e size v n xs := h
theorem Own.below (h : Own w e size v n xs) {B : Nat} (hb : Below B w w') (hv : ∀ g, v.ownBlock = some g → g < B) : Own w' e size v n xs :=
  h.keep fun g hg => hb.block g (hv g hg)
end

/-- a new block holds what was laid into it -/
theorem rd_new (w : World) (xs : Array Value) (e : TypeId) : Rd (w.alloc (.cells xs e)) (some ⟨w.heap.size, 0, none⟩) xs.toList := by
  intro _
  refine ⟨_, rfl, fun j u hu => ?_⟩
  rw [add_head, cell_of_row _ _ j xs e (0, 0) (heap_alloc_new w _)]
  simpa using hu
theorem Own.rdB {w : World} {e : TypeId} {v : Value} {l : List UInt8} (h : Own w e 1 v l.length (bys l)) : ∃ A cap, v = .slice A l.length cap ∧ RdB w A l := by
  obtain ⟨A, cap, rfl, hr, _⟩ := h.form
  exact ⟨A, cap, rfl, rdB_of_rd hr⟩
theorem RdB.keep {w w' : World} {A : Option Addr} {l : List UInt8} (h : RdB w A l) (hb : Below w.heap.size w w') : RdB w' A l := by
  intro k hk
  obtain ⟨ad, e, hc⟩ := h k hk
  exact ⟨ad, e, by rw [hb.cell (World.block_lt_of_cell? w _ hc)]; exact hc⟩
theorem Own.snoc {w : World} {e : TypeId} {v : Value} {l : List UInt8} {c : UInt8} (h : Own w e 1 v (l.length + 1) (bys l ++ [.int .u8 (c.toNat : Int)])) : Own w e 1 v (l ++ [c]).length (bys (l ++ [c])) := by
  simpa [bys] using h
theorem Own.cast {w : World} {e size n n' : Nat} {v : Value} {xs xs' : List Value} (h : Own w e size v n xs) (hn : n = n') (hx : xs = xs') : Own w e size v n' xs' := by subst hn; subst hx; exact h

theorem RdB.take {w : World} {A : Option Addr} {l : List UInt8} (h : RdB w A l) (n : Nat) : RdB w A (l.take n) := by
  intro k hk
  rw [List.length_take] at hk
  obtain ⟨ad, e, hc⟩ := h k (by omega)
  refine ⟨ad, e, ?_⟩
  rw [hc]
  simp [List.getD_eq_getElem?_getD, List.getElem?_take, show k < n from by omega]
/-- a cell of what is owned is written -/
theorem Own.set {w : World} {e g n cap : Nat} {xs : List Value} (h : Own w e 1 (.slice (some ⟨g, 0, none⟩) n cap) n xs) (i : Nat) (u : Value) :
    Own (w.setCell ⟨g, i, none⟩ u) e 1 (.slice (some ⟨g, 0, none⟩) n cap) n (xs.set i u) := by
  obtain ⟨hl, h⟩ := h
  refine ⟨by simpa using hl, ?_⟩
  rcases h with ⟨h, _⟩ | ⟨g', cap', cur, hv, hb, hnc, hcm, hcs, ht⟩
  · cases h
  · injection hv with h1 h2 h3
    injection h1 with h1
    injection h1 with h1
    subst h1
    subst h3
    refine .inr ⟨g, cap, cur.setIfInBounds i u, rfl, ?_, hnc, hcm, by simpa using hcs, ?_⟩
    · simp [World.setCell, Array.getElem?_modify, hb]
    · rw [← ht, Array.toList_setIfInBounds, List.take_set]
theorem Own.cell {w : World} {e g n cap : Nat} {xs : List Value} (h : Own w e 1 (.slice (some ⟨g, 0, none⟩) n cap) n xs) (i : Nat) {u : Value} (hu : xs[i]? = some u) : w.cell? ⟨g, i, none⟩ = some u := by
  obtain ⟨A, c, hv, hr, _⟩ := h.form
  injection hv with h1
  subst h1
  obtain ⟨ad, e1, hc⟩ := hr (fun e => by rw [e] at hu; simp at hu)
  injection e1 with e1
  subst e1
  rw [← add_head]
  exact hc i u hu
theorem Own.free {w : World} {e g n cap : Nat} {xs : List Value} (h : Own w e 1 (.slice (some ⟨g, 0, none⟩) n cap) n xs) (i : Nat) : w.frozen? ⟨g, i, none⟩ = false := by
  rcases h.2 with ⟨h, _⟩ | ⟨g', cap', cur, hv, hb, _⟩
  · cases h
  · injection hv with h1 h2 h3
    injection h1 with h1
    injection h1 with h1
    subst h1
    simp [World.frozen?, hb]
/-- what holds something leads to a block's head -/
theorem Own.head {w : World} {e size n : Nat} {v : Value} {xs : List Value} (h : Own w e size v n xs) (hn : 0 < n) : ∃ g cap, v = .slice (some ⟨g, 0, none⟩) n cap ∧ n ≤ cap ∧ cap ≤ maxLen := by
  rcases h.2 with ⟨_, h⟩ | ⟨g, cap, cur, hv, _, hnc, hcm, _⟩
  · omega
  · exact ⟨g, cap, hv, hnc, hcm⟩

theorem RdB.at_ {w : World} {ad : Addr} {l : List UInt8} (h : RdB w (some ad) l) {k : Nat} (hk : k < l.length) : w.cell? (ad.add k) = some (.int .u8 ((l.getD k 0).toNat : Int)) := by
  obtain ⟨ad', e, hc⟩ := h k hk
  injection e with e
  subst e
  exact hc
theorem RdB.at2 {w : World} {ad : Addr} {l : List UInt8} (h : RdB w (some ad) l) {k j : Nat} (hk : k + j < l.length) : w.cell? ((ad.add k).add j) = some (.int .u8 ((l.getD (k + j) 0).toNat : Int)) := by
  rw [add_of_add]; exact h.at_ hk
theorem below_drewN {B : Nat} {a w : World} (h : Below B a w) (n : Nat) : Below B a (w.drewN n) := ⟨h.os, h.tape, h.output, h.size, h.block⟩
theorem Own.drewN {w : World} {e size n : Nat} {v : Value} {xs : List Value} (h : Own w e size v n xs) (m : Nat) : Own (w.drewN m) e size v n xs := h

/-- behind an append onto a slice of the call's own: all of the call's own still -/
theorem new_append {B : Nat} {w1 : World} {v v' : Value} (hB : B ≤ w1.heap.size) (hv : ∀ g, v.ownBlock = some g → B ≤ g) (hat : v'.ownBlock = v.ownBlock ∨ v'.ownBlock = some w1.heap.size) : ∀ g, v'.ownBlock = some g → B ≤ g := by
  intro g hg
  rcases hat with h | h
  · exact hv g (h ▸ hg)
  · rw [h] at hg; cases hg; exact hB

/-! ### append -/
/-- what append leaves: the new slice owns all; one row, or nothing old, has turned; where it lies; the old slice still reads as it did -/
structure Appended (w w' : World) (e size : Nat) (v v' : Value) (n m : Nat) (xs news : List Value) : Prop where
  own : Own w' e size v' (n + m) (xs ++ news)
  grown : w.grownBy w' v.ownBlock
  lies : v'.ownBlock = v.ownBlock ∨ v'.ownBlock = some w.heap.size
  nothing : m = 0 → v' = v ∧ w' = w
  old : ∀ A c, v = .slice A n c → Rd w' A xs
section
variable {P : Program} (w : World)
theorem run_append (t ty e : TypeId) (i : TypeInfo) (z : Value) (size bytes : Nat) (ht : P.underlying t = some (.slice e)) (hi : P.info? e = some i) (hz : i.zero = some z)
    (hsize : i.size = size) (hby : i.bytes = bytes) (hzs : z.cells.size = size) (hsz : 0 < size)
    (v : Value) (n : Nat) (xs : List Value) (hown : Own w e size v n xs)
    (A : Option Addr) (m c : Nat) (news : List Value) (hl : news.length = m * size) (hr : Rd w A news) (h1 : ∀ u ∈ news, u.oneCell' = true)
    (h63 : n + m ≤ maxLen) (hbytes : (n + m) * bytes ≤ 140737488355328) :
    ∃ v' w', (Builtin.append_ #[t, t] ty #[v, .slice A m c]).run P w = .ok v' w' ∧ Appended w w' e size v v' n m xs news := by
  have hform := hown.form
  subst hsize
  subst hby
  have hsmall : n + m ≤ 9223372036854775807 := by simp only [maxLen] at h63; omega
  have hlen : (xs ++ news).length = (n + m) * i.size := by rw [List.length_append, hown.1, hl, Nat.add_mul]
  by_cases hm : m = 0
  · subst hm
    have hn : news = [] := List.eq_nil_of_length_eq_zero (by simpa using hl)
    subst hn
    refine ⟨v, w, ?_, by simpa using hown, World.grownBy.refl w _, .inl rfl, fun _ => ⟨rfl, rfl⟩, fun A' c' hv => ?_⟩
    case refine_2 =>
      obtain ⟨A1, c1, hv1, hr1, _⟩ := hform
      rw [hv1] at hv
      injection hv with h1
      subst h1
      exact hr1
    rcases hown.2 with ⟨rfl, rfl⟩ | ⟨g, cap, cur, rfl, hg, hnc, _⟩
    · cases A <;> simp [Builtin.append_, run_underlying ht, sizeOf, typeInfo, hi, Builtin.lenOf, Builtin.firstCells, loadCells, loadCellsFrom]
    · cases A <;> simp [Builtin.append_, run_underlying ht, sizeOf, typeInfo, hi, Builtin.lenOf, Builtin.firstCells, loadCells, loadCellsFrom, hnc, storeCells]
  have hne : news ≠ [] := fun h0 => by
    have hp := Nat.mul_pos (Nat.pos_of_ne_zero hm) hsz
    rw [h0] at hl
    simp only [List.length_nil] at hl
    omega
  obtain ⟨a, rfl, hnews⟩ := hr hne
  have grown : ∀ (old : Nat), old < n + m → ∀ (row : Option Nat),
      Own (w.drew.alloc (.cells (xs.toArray ++ news.toArray ++ Builtin.zeroCells z.cells (grownCap w (n + m) old e - (n + m))) e)) e i.size
        (.slice (some ⟨w.heap.size, 0, none⟩) (n + m) (grownCap w (n + m) old e)) (n + m) (xs ++ news) ∧
      w.grownBy (w.drew.alloc (.cells (xs.toArray ++ news.toArray ++ Builtin.zeroCells z.cells (grownCap w (n + m) old e - (n + m))) e)) row := by
    intro old ho row
    have hge := grownCap_ge w (n + m) old e
    have hcm : grownCap w (n + m) old e ≤ maxLen := grownCap_le_maxLen w (n + m) old e h63
    refine ⟨⟨hlen, .inr ⟨w.heap.size, _, _, rfl, heap_alloc_new w.drew _, hge, hcm, ?_, ?_⟩⟩, ⟨rfl, rfl, rfl, by simp, fun k hk _ => Below.heap_alloc w.drew _ k hk⟩⟩
    · apply Nat.le_of_eq
      simp only [Array.size_append, List.size_toArray, size_zeroCells, hzs, hown.1, hl, ← Nat.add_mul]
      congr 1
      omega
    · simp only [Array.toList_append, List.append_assoc]
      rw [← List.append_assoc, ← hlen]
      exact List.take_left
  rcases hown.2 with ⟨rfl, rfl⟩ | ⟨g, cap, cur, rfl, hg, hnc, hcm, hcs, htake⟩
  · have hx : xs = [] := List.eq_nil_of_length_eq_zero (by simpa using hown.1)
    subst hx
    have hr := run_append_nil (P := P) w t ty e i z ht hi hz a m c news hl hnews (by omega) (by omega) (by have hb := hbytes; simp only [Nat.zero_add] at hb; omega)
    have hgr := grown 0 (by omega) (Value.ownBlock (.slice none 0 0))
    simp only [Nat.zero_add, List.nil_append, Array.empty_append] at hgr ⊢
    exact ⟨_, _, hr, hgr.1.cast (Nat.zero_add m).symm rfl, hgr.2, .inr rfl, fun h => absurd h hm, fun A' c' hv => Rd.nil _ _⟩
  · by_cases hroom : n + m ≤ cap
    · have hfit : n * i.size + news.length ≤ cur.size := by rw [hl, ← Nat.add_mul]; exact Nat.le_trans (Nat.mul_le_mul_right _ hroom) hcs
      have hr := run_append_room (P := P) w t ty e i ht hi g n cap cur hg a m c news hl hnews h1 hroom hfit
      refine ⟨_, _, hr, ⟨hlen, .inr ⟨g, cap, _, rfl, setRow_heap w g cur _ e _ hg, hroom, hcm, ?_, ?_⟩⟩, ⟨rfl, rfl, rfl, by simp, fun k _ hk => setRow_other w g k _ (fun e => hk (by simp [Value.ownBlock, e]))⟩, .inl rfl, fun h => absurd h hm, fun A' c' hv => ?_⟩
      · simp only [List.size_toArray, List.length_append, List.length_take, List.length_drop, Array.length_toList]
        omega
      · rw [htake, ← hlen]
        exact List.take_left
      · injection hv with h1
        subst h1
        intro _
        refine ⟨_, rfl, fun j u hu => ?_⟩
        rw [add_head, cell_of_row _ g j _ e (0, 0) (setRow_heap w g cur _ e _ hg)]
        have hj : j < xs.length := (List.getElem?_eq_some_iff.1 hu).1
        rw [htake]
        simp [List.getElem?_append_left hj, hu]
    · obtain ⟨A', cap', hv, hrd, _, _, _, _⟩ := hown.form
      injection hv with hA hn2 hc2
      subst hA
      have holds : ∀ j u, xs[j]? = some u → w.cell? ((⟨g, 0, none⟩ : Addr).add j) = some u := by
        intro j u hu
        obtain ⟨ad, e1, hc1⟩ := hrd (fun e => by rw [e] at hu; simp at hu)
        injection e1 with e1
        subst e1
        exact hc1 j u hu
      have hr := run_append_grow (P := P) w t ty e i z ht hi hz ⟨g, 0, none⟩ n cap xs hown.1 holds a m c news hl hnews (by omega) (by omega) (growslice_fits (by omega) hbytes)
      have hgr := grown cap (by omega) (Value.ownBlock (.slice (some ⟨g, 0, none⟩) n cap))
      refine ⟨_, _, hr, hgr.1, hgr.2, .inr rfl, fun h => absurd h hm, fun A' c' hv => ?_⟩
      injection hv with h1
      subst h1
      intro _
      exact ⟨_, rfl, fun j u hu => by rw [World.cell?_alloc_lt w.drew _ _ (World.block_lt_of_cell? w _ (holds j u hu))]; exact holds j u hu⟩

theorem wp_append {o : Oper} {a : Act} {K : Act → World → Prop} {Q : Exit → Act → World → Prop} (s x : Operand) (t : TypeId)
    (ho : o.op = .call { callee := .builtin .append, args := #[s, x], argTypes := #[t, t] })
    (e : TypeId) (i : TypeInfo) (z : Value) (size bytes : Nat) (ht : P.underlying t = some (.slice e)) (hi : P.info? e = some i) (hz : i.zero = some z)
    (hsize : i.size = size) (hby : i.bytes = bytes) (hzs : z.cells.size = size) (hsz : 0 < size)
    (v : Value) (n : Nat) (xs : List Value) (hs : a.eval s = v) (hown : Own w e size v n xs)
    (A : Option Addr) (m c : Nat) (news : List Value) (hx : a.eval x = .slice A m c) (hl : news.length = m * size) (hr : Rd w A news) (h1 : ∀ u ∈ news, u.oneCell' = true)
    (h63 : n + m ≤ maxLen) (hbytes : (n + m) * bytes ≤ 140737488355328)
    (h : ∀ v' w', Appended w w' e size v v' n m xs news → K (a.put o.dst v') w') : o.wp P a w K Q := by
  obtain ⟨v', w', hrun, hp⟩ := run_append (P := P) w t o.type e i z size bytes ht hi hz hsize hby hzs hsz v n xs hown A m c news hl hr h1 h63 hbytes
  unfold Oper.wp execOp
  simp only [ho, resolve, invoke, builtin, Sem.run_bind, Sem.run_pure, Result.andThen_ok, List.map_toArray, List.map_cons, List.map_nil, hs, hx, hrun]
  exact h v' w' hp
theorem wpList_append {ops : Array Oper} {rest : List Oper} {o : Oper} {a : Act} {Q : Exit → Act → World → Prop} (hgd : o.guard = none) (s x : Operand) (t : TypeId)
    (ho : o.op = .call { callee := .builtin .append, args := #[s, x], argTypes := #[t, t] })
    (e : TypeId) (i : TypeInfo) (z : Value) (size bytes : Nat) (ht : P.underlying t = some (.slice e)) (hi : P.info? e = some i) (hz : i.zero = some z)
    (hsize : i.size = size) (hby : i.bytes = bytes) (hzs : z.cells.size = size) (hsz : 0 < size)
    (v : Value) (n : Nat) (xs : List Value) (hs : a.eval s = v) (hown : Own w e size v n xs)
    (A : Option Addr) (m c : Nat) (news : List Value) (hx : a.eval x = .slice A m c) (hl : news.length = m * size) (hr : Rd w A news) (h1 : ∀ u ∈ news, u.oneCell' = true)
    (h63 : n + m ≤ maxLen) (hbytes : (n + m) * bytes ≤ 140737488355328)
    (h : ∀ v' w', Appended w w' e size v v' n m xs news → wpList P ops Q rest (a.put o.dst v') w') : wpList P ops Q (o :: rest) a w :=
  wpList_plain hgd fun _ hK => wp_append w s x t ho e i z size bytes ht hi hz hsize hby hzs hsz v n xs hs hown A m c news hx hl hr h1 h63 hbytes fun v' w' hp => hK _ _ (h v' w' hp)
/-- at a step of a region that draws its order -/
theorem step_append {ops : Array Oper} {o : Oper} {a : Act} {K : Act → World → Prop} {Q : Exit → Act → World → Prop} {E : Prop} (hgd : o.guard = none) (s x : Operand) (t : TypeId)
    (ho : o.op = .call { callee := .builtin .append, args := #[s, x], argTypes := #[t, t] })
    (e : TypeId) (i : TypeInfo) (z : Value) (size bytes : Nat) (ht : P.underlying t = some (.slice e)) (hi : P.info? e = some i) (hz : i.zero = some z)
    (hsize : i.size = size) (hby : i.bytes = bytes) (hzs : z.cells.size = size) (hsz : 0 < size)
    (v : Value) (n : Nat) (xs : List Value) (hs : a.eval s = v) (hown : Own w e size v n xs)
    (A : Option Addr) (m c : Nat) (news : List Value) (hx : a.eval x = .slice A m c) (hl : news.length = m * size) (hr : Rd w A news) (h1 : ∀ u ∈ news, u.oneCell' = true)
    (h63 : n + m ≤ maxLen) (hbytes : (n + m) * bytes ≤ 140737488355328)
    (h : ∀ v' w', Appended w w' e size v v' n m xs news → K (a.put o.dst v') w') : if Region.wanted o (yielded ops a.tmps) = true then Oper.wp P o a w K Q else E := by
  rw [if_pos (by simp [Region.wanted, hgd])]
  exact wp_append w s x t ho e i z size bytes ht hi hz hsize hby hzs hsz v n xs hs hown A m c news hx hl hr h1 h63 hbytes h
end
theorem Rd.keep {w w' : World} {A : Option Addr} {xs : List Value} (h : Rd w A xs) (hb : Below w.heap.size w w') : Rd w' A xs := by
  intro hne
  obtain ⟨ad, e, hc⟩ := h hne
  exact ⟨ad, e, fun j u hu => by rw [hb.cell (World.block_lt_of_cell? w _ (hc j u hu))]; exact hc j u hu⟩
theorem own_empty (w : World) (e size : Nat) : Own (w.alloc (.cells #[] e)) e size (.slice (some ⟨w.heap.size, 0, none⟩) 0 0) 0 [] :=
  ⟨by simp, .inr ⟨w.heap.size, 0, #[], rfl, heap_alloc_new w _, Nat.le_refl _, Nat.zero_le _, by simp, by simp⟩⟩
/-- behind a new block, draws, and an append onto a row of the call's own -/
theorem below_app {B : Nat} {w wr W w2 : World} {row : Option Nat} {o : Obj} (h : Below B w wr) (hs : B ≤ wr.heap.size) (hW : W.heap = wr.heap.push o) (h1 : W.os = wr.os) (h2 : W.tape = wr.tape) (h3 : W.output = wr.output) (hg : W.grownBy w2 row) (hr : ∀ k, row = some k → B ≤ k) : Below B w w2 := by
  have hb : Below B w W := by
    refine h.trans ⟨h1, h2, h3, by rw [hW]; simp, fun k hk => ?_⟩
    rw [hW, Array.getElem?_push, if_neg (by omega)]
  exact hb.grown hg (by rw [hW]; simp; omega) hr
theorem own_old {w : World} {g j : Nat} {xs : List Value} {u : Value} (h : Rd w (some ⟨g, 0, none⟩) xs) (hu : xs[j]? = some u) : w.cell? ⟨g, j, none⟩ = some u := by
  obtain ⟨ad, e, hc⟩ := h (fun e => by rw [e] at hu; simp at hu)
  injection e with e
  subst e
  rw [← add_head]
  exact hc j u hu
end Go.Proofs.YtmlfeljhojmbbaaGreatDoor
