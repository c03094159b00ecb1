/- The log: its tables, its names of segments, and its memory. Walks: the log's small calls: note, none, last, has. Walks: the log's has and Segments. The disk's calls by way of the log; the walk of write (printed by wip/genlg4.py). The log's plain law: files by their names; frames one behind the other, whole and torn. Walk: the record at the beginning of bytes. -/
import Derived.Test.YtmlfeljhojmbbaaGreatDoorDs
import Derived.Test.YtmlfeljhojmbbaaGreatDoorList
import Derived.Test.YtmlfeljhojmbbaaGreatDoorFrame
import Derived.Test.YtmlfeljhojmbbaaGreatDoorSh07
namespace Go.Proofs.YtmlfeljhojmbbaaGreatDoor
open Go.RowKit Go.Maps Go.Sort
set_option linter.unusedSimpArgs false
set_option linter.unusedVariables false
set_option maxRecDepth 100000

/-- the tables that a log reads, in blocks below Z -/
structure Tb (w : World) (Z : Nat) : Prop where
  k : Rd w (some ⟨1, 0, none⟩) (wds Psha.ks)
  b : Rd w (some ⟨0, 0, none⟩) (wds Psha.iv.list)
  p : Lib.TabIs Tryz.prog w "internal/strconv.uint64pow10" .u64 Lib.pow10Tab
  gk : 1 < Z
  gb : 0 < Z
  gp : 2 < Z
theorem rd_belowZ {w w' : World} {Z : Nat} {a : Addr} {xs : List Value} (h : Rd w (some a) xs) (hb : Below Z w w') (hz : a.block < Z) : Rd w' (some a) xs := by
  intro hne
  obtain ⟨ad, e, hc⟩ := h hne
  injection e with e
  subst e
  exact ⟨a, rfl, fun j u hu => by rw [hb.cell (by rw [block_of_add]; exact hz)]; exact hc j u hu⟩
theorem Tb.below {w w' : World} {Z : Nat} (h : Tb w Z) (hb : Below Z w w') : Tb w' Z := by
  refine ⟨rd_belowZ h.k hb h.gk, rd_belowZ h.b hb h.gb, ?_, h.gk, h.gb, h.gp⟩
  have := h.p
  unfold Lib.TabIs World.var? at *
  rw [show (Tryz.prog).globalNamed "internal/strconv.uint64pow10" = some 2 by kernel_rfl] at *
  simp only [Option.bind_some] at *
  rw [hb.block _ h.gp]
  exact this
/-- a segment's name -/
def seg (n : Nat) : List UInt8 := 115 :: (List.replicate (8 - Lib.nDigits n) 48 ++ Lib.decDigits n)
def segS (n : Nat) : ByteArray := ⟨(seg n).toArray⟩
theorem segS_list (n : Nat) : (segS n).data.toList = seg n := by simp [segS]
theorem nDigits_pow : ∀ (k n : Nat), n < 10 ^ (k + 1) → Lib.nDigits n ≤ k + 1
  | 0, n, h => by
    rw [Lib.nDigits_small (by simpa using h)]
    omega
  | k + 1, n, h => by
    by_cases h1 : n < 10
    · rw [Lib.nDigits_small h1]
      omega
    · rw [Lib.nDigits_big h1]
      have := nDigits_pow k (n / 10) (by rw [Nat.pow_succ] at h; omega)
      omega
theorem nDigits_le {n : Nat} (h : n ≤ 99999999) : Lib.nDigits n ≤ 8 := nDigits_pow 7 n (by omega)
theorem seg_length {n : Nat} (h : n ≤ 99999999) : (seg n).length = 9 := by
  have := nDigits_le h
  simp [seg, Lib.decDigits_length]
  omega
theorem below_grow (w : World) (k : Nat) (os : Array Obj) : Below w.heap.size w (grow (w.drewN k) os) := by
  refine ⟨rfl, by simp [grow], rfl, by simp [grow], fun b hb => ?_⟩
  simp [grow, Array.getElem?_append, hb]
theorem file_calls (n : Nat) (w : World) (h1 : n ≤ 99999999) (htab : Lib.TabIs Tryz.prog w "internal/strconv.uint64pow10" .u64 Lib.pow10Tab) :
    Calls Tryz.prog 49 #[.int .i64 (n : Int)] w fun e w' => e = .returned (.string (segS n)) ∧ Below w.heap.size w w' := by
  have hn := nDigits_le h1
  have hlen : (ByteArray.mk (Lib.itoa (n : Int)).toArray).size = Lib.nDigits n := by
    rw [Lib.size_eq]
    rw [Lib.itoa, if_neg (by omega)]
    simp [Lib.decDigits_length]
  go_enter Tryz.func49, Tryz.ntmps49
  go_wp2_with fail
  refine (sh_Itoa (n : Int) (by omega) (by omega) w htab).mono ?_
  rintro e w' ⟨rfl, k, os, rfl⟩
  go_wp2_with fail
  go_ret
  refine ⟨congrArg (fun x => Ending.returned (Value.string x)) (AnyPlain.small_ba _ _ ?_), below_grow _ _ _⟩
  rw [ByteArray.data_append, ByteArray.data_append, ByteArray.data_extract, Array.toList_append, Array.toList_append, Array.toList_extract]
  rw [Lib.itoa, if_neg (by omega)]
  show [115] ++ List.extract (List.replicate 8 48) 0 (8 - Lib.nDigits n) ++ Lib.decDigits n = seg n
  rw [List.extract_eq_take_drop, List.drop_zero, Nat.sub_zero, List.take_replicate, Nat.min_eq_left (by omega)]
  rfl
/-- the names of a disk's files, rising -/
def lsD (d : Ds) : List (List UInt8) := (d.S.map (·.1)).mergeSort (fun a b => decide (a ≤ b))
theorem dd_keys {w : World} {gd : Nat} {F : List Nat} {d : Ds} (h : DD w gd F d) : d.S.Pairwise fun a b => a.1 ≠ b.1 := by
  obtain ⟨gm, es, hD, hE, hF⟩ := h
  rw [← hE]
  unfold fls
  rw [List.pairwise_map]
  exact hD.keys
theorem lsD_mem {d : Ds} {a : List UInt8} : a ∈ lsD d ↔ look d.S a ≠ none := by
  unfold lsD
  rw [List.mem_mergeSort, List.mem_map]
  constructor
  · rintro ⟨x, hx, rfl⟩ e
    unfold look at e
    rw [Option.map_eq_none_iff, List.find?_eq_none] at e
    exact e x hx (by simp)
  · intro h
    cases hl : look d.S a with
    | none => exact absurd hl h
    | some p =>
      unfold look at hl
      cases hf : d.S.find? (fun x => x.1 == a) with
      | none => rw [hf] at hl; cases hl
      | some x =>
        have h1 := List.find?_some hf
        exact ⟨x, List.mem_of_find?_eq_some hf, by simpa using h1⟩
theorem lsD_rising {d : Ds} (h : d.S.Pairwise fun a b => a.1 ≠ b.1) : (lsD d).Pairwise (· < ·) := by
  have h1 : (lsD d).Pairwise (fun a b => a ≤ b) := by
    have := List.pairwise_mergeSort (le := fun x y : List UInt8 => decide (x ≤ y)) (fun a b c h1 h2 => by simp only [decide_eq_true_eq] at *; exact List.le_trans h1 h2) (fun a b => by simp only [Bool.or_eq_true, decide_eq_true_eq]; exact List.le_total a b) (d.S.map (·.1))
    exact this.imp fun h => by simpa using h
  have h2 : (lsD d).Pairwise (· ≠ ·) := by
    have : (d.S.map (·.1)).Pairwise (· ≠ ·) := by rw [List.pairwise_map]; exact h
    exact (List.mergeSort_perm _ _).symm.pairwise this (fun h => h.symm)
  exact (h1.and h2).imp fun ⟨h1, h2⟩ => by
    rcases List.le_iff_lt_or_eq.1 h1 with h | h
    · exact h
    · exact absurd h h2
theorem dd_ls {w : World} {gd : Nat} {F : List Nat} {d : Ds} (h : DD w gd F d) (hn : d.n < 1000000000) :
    Calls Tryz.prog 14 #[gp gd] w fun e w' => ∃ v, e = .returned v ∧ Own w' 9 1 v (lsD d).length ((lsD d).map Proofs.encStr) ∧ Below w.heap.size w w' ∧ ∀ g, v.ownBlock = some g → w.heap.size ≤ g := by
  have hk := dd_keys h
  obtain ⟨gm, es, hD, hE, hF⟩ := h
  refine list_calls hD hn (lsD_rising hk) (fun a => ?_)
  have h1 : look (fls es) a = (lookE es a).map fun e => (e.b, e.syn) := look_map es a
  rw [lsD_mem, ← hE, h1]
  cases lookE es a <;> simp
/-- numbers in a row -/
def its (l : List Nat) : List Value := l.map fun n : Nat => .int .i64 (n : Int)
/-- a slice's room, and that it begins a block -/
def RowOk (A : Option Addr) (n c : Nat) : Prop := n ≤ c ∧ ∀ a, A = some a → a = ⟨a.block, 0, none⟩
/-- a log: its block, its slice of numbers -/
structure LgAt (w : World) (gl gd : Nat) (A : Option Addr) (c : Nat) (l : List Nat) (dead : Bool) : Prop where
  blk : Blk w gl 77 #[gp gd, .slice A l.length c, .bool dead]
  rd : Rd w A (its l)
  le : RowOk A l.length c
/-- a log and its disk: H holds all blocks that they have; the tables lie below Z -/
structure LD (w : World) (gl gd Z : Nat) (H : List Nat) (d : Ds) (l : List Nat) (dead : Bool) : Prop where
  go : ∃ F A c, DD w gd F d ∧ LgAt w gl gd A c l dead ∧ (∀ x ∈ F, x ∈ H ∧ x ≠ gl) ∧ ∀ a, A = some a → l ≠ [] → a.block ∉ F ∧ a.block ≠ gl ∧ a.block ∈ H
  gl : gl ∈ H
  z : ∀ x ∈ H, Z ≤ x
  zs : Z ≤ w.heap.size
  tb : Tb w Z
def LStp (w w' : World) (gl gd Z : Nat) (H : List Nat) (d : Ds) (l : List Nat) (dead : Bool) : Prop :=
  ∃ H', LD w' gl gd Z H' d l dead ∧ Kb w w' H ∧ ∀ x ∈ H', x ∈ H ∨ w.heap.size ≤ x
section
variable {w w' : World} {gl gd Z : Nat} {H : List Nat} {d : Ds} {l : List Nat} {dead : Bool}
theorem LD.keep (h : LD w gl gd Z H d l dead) {L : List Nat} (hk : Kb w w' L) (hL : ∀ x ∈ L, x ∉ H ∧ Z ≤ x) : LD w' gl gd Z H d l dead := by
  obtain ⟨⟨F, A, c, h1, h2, h3, h4⟩, h5, h6, h7, h8⟩ := h
  refine ⟨⟨F, A, c, Dsk.kept h1 hk (fun x hx hxL => (hL x hxL).1 (h3 x hx).1), ⟨hk.blk h2.blk (fun hx => (hL _ hx).1 h5), ?_, h2.le⟩, h3, h4⟩, h5, h6, Nat.le_trans h7 hk.size, h8.below (hk.below (Below.refl _ _) (fun x hx => (hL x hx).2) h7)⟩
  intro hne
  obtain ⟨a, rfl, hc⟩ := h2.rd hne
  have hl : l ≠ [] := fun e => hne (by rw [e]; rfl)
  obtain ⟨_, _, ha⟩ := h4 a rfl hl
  refine ⟨a, rfl, fun j u hu => ?_⟩
  have h9 := hc j u hu
  have hlt := World.block_lt_of_cell? w _ h9
  rw [← h9]
  exact World.cell?_of_block (w := w) (hk.block _ hlt (fun hx => by rw [block_of_add] at hx; exact (hL _ hx).1 ha))
theorem LD.quiet (h : LD w gl gd Z H d l dead) (hb : Below w.heap.size w w') : LD w' gl gd Z H d l dead := h.keep (Kb.of_below hb []) (fun x hx => by cases hx)
theorem LStp.same (h : LD w gl gd Z H d l dead) : LStp w w gl gd Z H d l dead := ⟨H, h, Kb.refl _ _, fun x hx => .inl hx⟩
theorem LStp.still (h : LD w gl gd Z H d l dead) (hb : Below w.heap.size w w') : LStp w w' gl gd Z H d l dead := ⟨H, h.quiet hb, Kb.of_below hb _, fun x hx => .inl hx⟩
theorem LStp.trans {w'' : World} {H' : List Nat} {d'' : Ds} {l'' : List Nat} {dead'' : Bool} (h2 : Kb w w' H) (h3 : ∀ x ∈ H', x ∈ H ∨ w.heap.size ≤ x) (h : LStp w' w'' gl gd Z H' d'' l'' dead'') : LStp w w'' gl gd Z H d'' l'' dead'' := by
  obtain ⟨F2, a1, a2, a3⟩ := h
  exact ⟨F2, a1, h2.trans a2 h3, fun x hx => (a3 x hx).elim (h3 x) fun h => .inr (Nat.le_trans h2.size h)⟩
/-- a step of the disk alone -/
theorem LD.disk (h : LD w gl gd Z H d l dead) : ∃ F, DD w gd F d ∧ ∀ {w' : World} {d' : Ds}, DStp w w' gd F d' → LStp w w' gl gd Z H d' l dead := by
  obtain ⟨⟨F, A, c, h1, h2, h3, h4⟩, h5, h6, h7, h8⟩ := h
  refine ⟨F, h1, ?_⟩
  rintro w' d' ⟨F', q1, q2, q3⟩
  have hgl : gl < w.heap.size := h2.blk.lt
  refine ⟨gl :: F' ++ H, ⟨⟨F', A, c, q1, ⟨q2.blk h2.blk (fun hx => (h3 _ hx).2 rfl), ?_, h2.le⟩, ?_, ?_⟩, ?_, ?_, Nat.le_trans h7 q2.size, h8.below (q2.below (Below.refl _ _) (fun x hx => h6 x (h3 x hx).1) h7)⟩, q2.mono fun x hx => (h3 x hx).1, ?_⟩
  · intro hne
    obtain ⟨a, rfl, hc⟩ := h2.rd hne
    have hl : l ≠ [] := fun e => hne (by rw [e]; rfl)
    obtain ⟨ha, _, _⟩ := h4 a rfl hl
    refine ⟨a, rfl, fun j u hu => ?_⟩
    have h9 := hc j u hu
    have hlt := World.block_lt_of_cell? w _ h9
    rw [← h9]
    exact World.cell?_of_block (w := w) (q2.block _ hlt (fun hx => by rw [block_of_add] at hx; exact ha hx))
  · intro x hx
    refine ⟨by simp [hx], ?_⟩
    rcases q3 x hx with h | h
    · exact (h3 x h).2
    · omega
  · intro a ha hl
    obtain ⟨b1, b2, b3⟩ := h4 a ha hl
    refine ⟨fun hx => ?_, b2, by simp [b3]⟩
    rcases q3 _ hx with h | h
    · exact b1 h
    · have hne : its l ≠ [] := fun e => hl (by simpa [its] using e)
      obtain ⟨a', e', hc⟩ := h2.rd hne
      rw [ha] at e'
      injection e' with e'
      subst e'
      cases l with
      | nil => exact hl rfl
      | cons n l =>
        have h9 := World.block_lt_of_cell? w _ (hc 0 (.int .i64 (n : Int)) rfl)
        rw [block_of_add] at h9
        omega
  · simp
  · intro x hx
    simp only [List.cons_append, List.mem_cons, List.mem_append] at hx
    rcases hx with rfl | hx | hx
    · exact h6 _ h5
    · rcases q3 x hx with h | h
      · exact h6 x (h3 x h).1
      · omega
    · exact h6 x hx
  · intro x hx
    simp only [List.cons_append, List.mem_cons, List.mem_append] at hx
    rcases hx with rfl | hx | hx
    · exact .inl h5
    · rcases q3 x hx with h | h
      · exact .inl (h3 x h).1
      · exact .inr h
    · exact .inl hx
theorem rd_kept {A : Option Addr} {xs : List Value} {L : List Nat} (h : Rd w A xs) (hk : Kb w w' L) (hA : ∀ a, A = some a → xs ≠ [] → a.block ∉ L) : Rd w' A xs := by
  intro hne
  obtain ⟨a, rfl, hc⟩ := h hne
  refine ⟨a, rfl, fun j u hu => ?_⟩
  have h9 := hc j u hu
  have hlt := World.block_lt_of_cell? w _ h9
  rw [← h9]
  exact World.cell?_of_block (w := w) (hk.block _ hlt (fun hx => by rw [block_of_add] at hx; exact hA a rfl hne hx))
theorem its_ne {l : List Nat} (h : l ≠ []) : its l ≠ [] := fun e => h (by simpa [its] using e)
theorem ne_its {l : List Nat} (h : its l ≠ []) : l ≠ [] := fun e => h (by rw [e]; rfl)
def blkOf (A : Option Addr) : List Nat := (A.map (·.block)).toList
theorem LD.mono (h : LD w gl gd Z H d l dead) {H' : List Nat} (hH : ∀ x ∈ H, x ∈ H') (hz : ∀ x ∈ H', Z ≤ x) : LD w gl gd Z H' d l dead := by
  obtain ⟨⟨F, A, c, h1, h2, h3, h4⟩, h5, h6, h7, h8⟩ := h
  exact ⟨⟨F, A, c, h1, h2, fun x hx => ⟨hH x (h3 x hx).1, (h3 x hx).2⟩, fun a ha hl => ⟨(h4 a ha hl).1, (h4 a ha hl).2.1, hH _ (h4 a ha hl).2.2⟩⟩, hH _ h5, hz, h7, h8⟩
/-- the log's block alone turns -/
theorem LD.log (h : LD w gl gd Z H d l dead) : ∃ A c, Blk w gl 77 #[gp gd, .slice A l.length c, .bool dead] ∧ Rd w A (its l) ∧ (∀ a, A = some a → l ≠ [] → a.block ≠ gl ∧ a.block ∈ H) ∧
    (∀ dead', LStp w (w.setCell ⟨gl, 2, none⟩ (.bool dead')) gl gd Z H d l dead') ∧
    ∀ A' c' l', Rd w A' (its l') → RowOk A' l'.length c' → (∀ a, A' = some a → a.block ∉ H ∧ Z ≤ a.block) → LD (w.setCell ⟨gl, 1, none⟩ (.slice A' l'.length c')) gl gd Z (blkOf A' ++ H) d l' dead := by
  obtain ⟨⟨F, A, c, h1, h2, h3, h4⟩, h5, h6, h7, h8⟩ := h
  have hk : ∀ i u, Kb w (w.setCell ⟨gl, i, none⟩ u) [gl] := fun i u => (Kb.refl w _).setCell (by simp) _
  have hs : ∀ i u, Dsk (w.setCell ⟨gl, i, none⟩ u) gd F d.n d.S d.room d.short d.fuse := fun i u => Dsk.kept h1 (hk i u) (fun x hx hxL => (h3 x hx).2 (by simpa using hxL))
  have ht : ∀ i u, Tb (w.setCell ⟨gl, i, none⟩ u) Z := fun i u => h8.below ((hk i u).below (Below.refl _ _) (fun x hx => by
    obtain rfl : x = gl := by simpa using hx
    exact h6 _ h5) h7)
  refine ⟨A, c, h2.blk, h2.rd, fun a ha hl => (h4 a ha hl).2, fun dead' => ?_, fun A' c' l' hr hle hA => ?_⟩
  · refine ⟨H, ⟨⟨F, A, c, hs _ _, ⟨?_, rd_kept h2.rd (hk _ _) (fun a ha hl hx => (h4 a ha (ne_its hl)).2.1 (by simpa using hx)), h2.le⟩, h3, h4⟩, h5, h6, Nat.le_trans h7 (hk 2 _).size, ht _ _⟩, (hk _ _).mono (fun x hx => ?_), fun x hx => .inl hx⟩
    · exact h2.blk.set_ 2 (.bool dead')
    · obtain rfl : x = gl := by simpa using hx
      exact h5
  · have hm : ∀ a, A' = some a → a.block ∈ blkOf A' ++ H := fun a ha => by simp [blkOf, ha]
    refine ⟨⟨F, A', c', hs _ _, ⟨h2.blk.set_ 1 _, rd_kept hr (hk _ _) (fun a ha hl hx => (hA a ha).1 ?_), hle⟩, fun x hx => ⟨List.mem_append_right _ (h3 x hx).1, (h3 x hx).2⟩, fun a ha hl => ⟨fun hx => (hA a ha).1 (h3 _ hx).1, fun e => (hA a ha).1 (e ▸ h5), hm a ha⟩⟩, List.mem_append_right _ h5, fun x hx => ?_, Nat.le_trans h7 (hk 1 _).size, ht _ _⟩
    · rw [show a.block = gl by simpa using hx]
      exact h5
    · rcases List.mem_append.1 hx with h | h
      · cases A' with
        | none => cases h
        | some a =>
          obtain rfl : x = a.block := by simpa [blkOf] using h
          exact (hA a rfl).2
      · exact h6 x h
theorem LD.row (h : LD w gl gd Z H d l dead) : ∃ A c, w.cell? ⟨gl, 1, none⟩ = some (.slice A l.length c) ∧ Rd w A (its l) ∧ RowOk A l.length c ∧ gl < w.heap.size ∧ ∀ a, A = some a → l ≠ [] → a.block ≠ gl ∧ a.block ∈ H := by
  obtain ⟨⟨F, A, c, h1, h2, h3, h4⟩, h5, h6, h7, h8⟩ := h
  exact ⟨A, c, h2.blk.cell 1, h2.rd, h2.le, h2.blk.lt, fun a ha hl => (h4 a ha hl).2⟩
end
end Go.Proofs.YtmlfeljhojmbbaaGreatDoor

namespace Go.Proofs.YtmlfeljhojmbbaaGreatDoor
open Go.RowKit Go.Maps Go.Sort
set_option linter.unusedSimpArgs false
set_option linter.unusedVariables false
set_option maxRecDepth 100000

theorem its_get {l : List Nat} {j : Nat} (h : j < l.length) : (its l)[j]? = some (.int .i64 (l[j] : Int)) := by
  rw [its, List.getElem?_map, List.getElem?_eq_getElem h]
  rfl
section
variable {w : World} {gl gd Z : Nat} {H : List Nat} {d : Ds} {l : List Nat} {dead : Bool}
theorem note_calls (h : LD w gl gd Z H d l dead) (x : Int) : Calls Tryz.prog 51 #[gp gl, .int .i64 x] w fun e w' => e = .returned (.int .i64 x) ∧ LStp w w' gl gd Z H d l (dead || decide (x = 62)) := by
  obtain ⟨A, c, h1, h2, h3, h4, h5⟩ := h.log
  have q2 : w.cell? ⟨gl, 2, none⟩ = some (.bool dead) := h1.cell 2
  have fr : w.frozen? ⟨gl, 2, none⟩ = false := h1.free 2
  have HS := Shut.mk (h4 true)
  have HK := Shut.mk (LStp.same h)
  clear h1 h2 h3 h4 h5 h
  by_cases hx : x = 62
  · subst hx
    go_enter Tryz.func51, Tryz.ntmps51
    go_wp2_with fail
    go_ret
    refine ⟨rfl, ?_⟩
    simpa using HS.out
  · go_enter Tryz.func51, Tryz.ntmps51
    go_wp2_with fail
    go_ret
    refine ⟨rfl, ?_⟩
    rw [decide_eq_false hx, Bool.or_false]
    exact HK.out
theorem none_calls (h : LD w gl gd Z H d l dead) : Calls Tryz.prog 47 #[gp gl] w fun e w' => e = .returned (.bool false) ∧ w = w' := by
  obtain ⟨A, c, h1, h2, h3, h4, h5⟩ := h.log
  have q0 : w.cell? ⟨gl, 0, none⟩ = some (gp gd) := h1.cell 0
  clear h1 h2 h3 h4 h5 h
  go_enter Tryz.func47, Tryz.ntmps47
  go_wp2_with fail
  go_ret
  exact ⟨rfl, rfl⟩
theorem last_calls (h : LD w gl gd Z H d l dead) (hl : l ≠ []) (hm : l.length < 100000000) : Calls Tryz.prog 50 #[gp gl] w fun e w' => e = .returned (.int .i64 (l.getLast hl : Int)) ∧ Below w.heap.size w w' := by
  obtain ⟨A, c, h1, h2, h3, h4, h5⟩ := h.log
  have q1 : w.cell? ⟨gl, 1, none⟩ = some (.slice A l.length c) := h1.cell 1
  obtain ⟨a, rfl, hc⟩ := h2 (its_ne hl)
  have hpos : 0 < l.length := List.length_pos_iff.2 hl
  have q2 : w.cell? (a.add (l.length - 1)) = some (.int .i64 (l.getLast hl : Int)) := hc (l.length - 1) _ (by rw [List.getLast_eq_getElem]; exact its_get (by omega))
  generalize l.getLast hl = x at *
  clear h1 h2 h3 h4 h5 h hc
  go_enter Tryz.func50, Tryz.ntmps50
  go_wp2_with fail
  go_region
  go_wp2_with fail
  go_ret
  exact ⟨rfl, (Below.refl _ w).drew⟩
end
end Go.Proofs.YtmlfeljhojmbbaaGreatDoor

namespace Go.Proofs.YtmlfeljhojmbbaaGreatDoor
open Go.RowKit Go.Maps Go.Sort
set_option linter.unusedSimpArgs false
set_option linter.unusedVariables false
set_option maxRecDepth 100000

theorem info_str7 : (Tryz.prog.info? 9).map (fun i => (i.zero, i.size, i.bytes)) = some (some (.string ByteArray.empty), 1, 16) := by kernel_rfl
theorem contains_names (v : Value) (ls : List (List UInt8)) (n : Nat) (s : ByteArray) (w : World) (ho : Own w 9 1 v n (ls.map Proofs.encStr)) (hn : ls.length = n) :
    Calls Tryz.prog 45 #[v, .string s] w fun e w' => e = .returned (.bool (decide (s.data.toList ∈ ls))) ∧ w' = w := by
  obtain ⟨hlen, ho'⟩ := ho
  rcases ho' with ⟨rfl, rfl⟩ | ⟨g, cap, cur, rfl, hg, hnc, hcm, hcs, ht⟩
  · have hl : ls = [] := List.eq_nil_of_length_eq_zero (by simpa using hn)
    subst hl
    simpa using sh_ContainsS0 none 0 s w
  · have hrd := (Own.form (w := w) (e := 9) (size := 1) (v := .slice (some ⟨g, 0, none⟩) n cap) (n := n) (xs := ls.map Proofs.encStr) ⟨hlen, .inr ⟨g, cap, cur, rfl, hg, hnc, hcm, hcs, ht⟩⟩)
    obtain ⟨A, c, e1, hr, _, hc2, _⟩ := hrd
    injection e1 with e1 _ e2
    subst e1
    subst e2
    refine (sh_ContainsS g 0 n cap (ls.map fun l => ByteArray.mk l.toArray) s w (by simp [hn]) (by unfold maxLen at hcm; omega) ?_).mono ?_
    · intro j hj
      rw [List.length_map] at hj
      have hne : ls.map Proofs.encStr ≠ [] := by
        intro e
        have := congrArg List.length e
        simp at this
        subst this
        simp at hj
      obtain ⟨ad, e3, hc⟩ := hr hne
      injection e3 with e3
      subst e3
      have h9 := hc j (.string ⟨(ls[j]).toArray⟩) (by rw [List.getElem?_map, List.getElem?_eq_getElem hj]; rfl)
      rw [add_head] at h9
      rw [show 0 + j = j by omega, h9, List.getD_eq_getElem?_getD, List.getElem?_map, List.getElem?_eq_getElem hj]
      rfl
    · rintro e w' ⟨rfl, rfl⟩
      refine ⟨?_, rfl⟩
      rw [List.take_of_length_le (by simp [hn])]
      congr 2
      rw [Bool.eq_iff_iff, Lib.containsS_iff, decide_eq_true_eq, List.mem_map]
      constructor
      · rintro ⟨l, hl, rfl⟩
        simpa using hl
      · intro h
        exact ⟨s.data.toList, h, by simp⟩
section
variable {w : World} {gl gd Z : Nat} {H : List Nat} {d : Ds} {l : List Nat} {dead : Bool}
theorem has_calls (h : LD w gl gd Z H d l dead) (hn : d.n < 1000000000) (s : ByteArray) : Calls Tryz.prog 41 #[gp gl, .string s] w fun e w' => e = .returned (.bool (look d.S s.data.toList).isSome) ∧ Below w.heap.size w w' := by
  obtain ⟨A, c, h1, h2, h3, h4, h5⟩ := h.log
  have q0 : w.cell? ⟨gl, 0, none⟩ = some (gp gd) := h1.cell 0
  obtain ⟨F, hD, _⟩ := h.disk
  have HL := Shut.mk (dd_ls hD hn)
  clear h1 h2 h3 h4 h5 h hD
  go_enter Tryz.func41, Tryz.ntmps41
  go_wp2_with fail
  refine HL.out.mono ?_
  rintro e w' ⟨v, rfl, ho, hb, hnw⟩
  go_wp2_with fail
  refine (contains_names v (lsD d) _ s w' ho rfl).mono ?_
  rintro e w2 ⟨rfl, rfl⟩
  go_wp2_with fail
  go_ret
  refine ⟨congrArg (fun b => Ending.returned (Value.bool b)) ?_, hb⟩
  rw [Bool.eq_iff_iff, decide_eq_true_eq, lsD_mem]
  cases look d.S s.data.toList <;> simp
theorem segments_calls (h : LD w gl gd Z H d l dead) (hl : ∀ n ∈ l, n ≤ 99999999) (hm : l.length ≤ 100000000) : Calls Tryz.prog 44 #[gp gl] w fun e w' => ∃ v, e = .returned v ∧ Own w' 9 1 v l.length ((l.map seg).map Proofs.encStr) ∧ Below w.heap.size w w' ∧ ∀ g, v.ownBlock = some g → w.heap.size ≤ g := by
  obtain ⟨i0, hi, hz0, hz1, hz2⟩ := info_parts info_str7
  have HNO := Shut.mk (none_calls h)
  have htb := h.tb
  have hzs := h.zs
  obtain ⟨A, c, h1, h2, h3, h4, h5⟩ := h.log
  have q1 : w.cell? ⟨gl, 1, none⟩ = some (.slice A l.length c) := h1.cell 1
  have HR := Shut.mk h2
  have HT := Shut.mk htb
  have HLL := Shut.mk hl
  obtain ⟨N, hN⟩ : ∃ N, N = l.length := ⟨_, rfl⟩
  rw [← hN] at q1 hm ⊢
  have HN := Shut.mk hN
  clear h1 h2 h3 h4 h5 h htb hl hN
  go_enter Tryz.func44, Tryz.ntmps44
  go_wp2_with fail
  refine HNO.out.mono ?_
  rintro e w' ⟨rfl, rfl⟩
  go_wp2_with fail
  go_loopw [3, 13] (fun u i wr => ∃ k : Nat, k ≤ N ∧ i = .int .i64 k ∧ Own wr 9 1 u k (((l.take k).map seg).map Proofs.encStr) ∧ Shut (∀ g, u.ownBlock = some g → w.heap.size ≤ g) ∧ Below w.heap.size w wr) (fun _ i _ => N - (intOf i).toNat)
  case atStart => exact ⟨0, Nat.zero_le _, rfl, Own.nil _ _ _, ⟨fun g hg => by cases hg⟩, Below.refl _ _⟩
  case round =>
    obtain ⟨k, hk, rfl, ho, hnw, hbr⟩ := hrel
    obtain ⟨A1, c1, rfl, _⟩ := ho.form
    have hsz := hbr.size
    by_cases hlt : k < N
    · have hkl : k < l.length := by rw [← HN.out]; exact hlt
      obtain ⟨a, hA, hc⟩ := HR.out (its_ne (fun e => by rw [e] at hkl; simp at hkl))
      subst hA
      have c0 := hc k _ (its_get hkl)
      have c2 := (hbr.cell (World.block_lt_of_cell? w _ c0)).trans c0
      obtain ⟨n, hn⟩ : ∃ n, n = l[k] := ⟨_, rfl⟩
      have hn9 : n ≤ 99999999 := by rw [hn]; exact HLL.out _ (List.getElem_mem _)
      rw [← hn] at c2
      have HN2 := Shut.mk hn
      have HTW := Shut.mk (HT.out.below (hbr.mono hzs))
      have HO := Shut.mk ho
      have HB := Shut.mk hbr
      have hkI : (k : Int) < (N : Int) := by omega
      clear hc c0 hn ho hbr
      go_wp2_with fail
      refine (file_calls n wr hn9 HTW.out.p).mono ?_
      rintro e w2 ⟨rfl, hb2⟩
      have ho2 := (HO.out.below hb2 (fun g hg => HO.out.block_lt hg)).alloc (.cells #[.string (segS n)] 9)
      have HB2 := Shut.mk (HB.out.trans (hb2.mono HB.out.size))
      have hs2 := HB2.out.size
      go_wp2_with (at_builtin; refine wpList_append _ rfl _ _ _ rfl 9 i0 _ 1 16 Tryz.underlying51 hi hz0 hz1 hz2 rfl (by decide) _ _ _ rfl ho2 _ 1 1 _ rfl (by rfl) (rd_new w2 #[.string (segS n)] 9) (by simp [Value.oneCell']) (by simp only [maxLen]; omega) (by omega) ?_; intro v6 w6 hap6)
      obtain ⟨g6, c6, rfl, _, _⟩ := hap6.own.head (by omega)
      go_roundw
      case rel =>
        have hbr' := HB2.out.alloc hs2 (.cells #[.string (segS n)] 9)
        refine ⟨k + 1, by omega, by go_num, hap6.own.cast rfl ?_, ⟨new_append (by simp; omega) hnw.out hap6.lies⟩, hbr'.grown hap6.grown (by simp; omega) hnw.out⟩
        rw [List.take_succ_eq_append_getElem hkl, List.map_append, List.map_append, ← HN2.out]
        rfl
      case measure => first | (simp [intOf]; done) | (simp [intOf]; omega)
    · obtain rfl : k = N := by omega
      go_wp2_with fail
      go_ret
      refine ⟨_, rfl, ?_, hbr, hnw.out⟩
      rw [List.take_of_length_le (by rw [← HN.out]; exact Nat.le_refl _)] at ho
      exact ho
end
end Go.Proofs.YtmlfeljhojmbbaaGreatDoor

namespace Go.Proofs.YtmlfeljhojmbbaaGreatDoor
open Go.RowKit Go.Maps Go.Sort
set_option linter.unusedSimpArgs false
set_option linter.unusedVariables false
set_option maxRecDepth 100000

/-- a disk that k more writes to its map do no harm -/
structure OkN (d : Ds) (k : Nat) : Prop where
  n : d.n + k ≤ 800000000
  r0 : 0 ≤ d.room
  r1 : d.room ≤ 1099511627776
  s0 : -1 ≤ d.short
  s1 : d.short ≤ 9223372036854775807
  f0 : -1 ≤ d.fuse
  f1 : d.fuse ≤ 9223372036854775807
theorem OkN.ok {d : Ds} {k : Nat} (h : OkN d k) : d.Ok := ⟨by have := h.n; omega, h.r0, h.r1, h.s0, h.s1, h.f0, h.f1⟩
theorem OkN.mono {d : Ds} {k j : Nat} (h : OkN d k) (hj : j ≤ k) : OkN d j := ⟨by have := h.n; omega, h.r0, h.r1, h.s0, h.s1, h.f0, h.f1⟩
theorem OkN.burn {d : Ds} {k : Nat} (h : OkN d k) (b : Bool) : OkN (d.burn b) k := ⟨h.n, h.r0, h.r1, h.s0, h.s1, (chFuse_range h.f0 h.f1).1, (chFuse_range h.f0 h.f1).2⟩
theorem OkN.app {d : Ds} {k : Nat} (h : OkN d (k + 1)) (s b : List UInt8) : OkN (dApp d s b).2.2 k := by
  have h1 := chFuse_range (ok := true) h.f0 h.f1
  have hn := h.n
  unfold dApp
  split
  · exact (h.burn _).mono (by omega)
  · split
    · exact ⟨by show d.n + 1 + k ≤ _; omega, h.r0, h.r1, by simp, by simp, h1.1, h1.2⟩
    · exact ⟨by show d.n + 1 + k ≤ _; omega, h.r0, h.r1, by simp, by simp, h1.1, h1.2⟩
theorem OkN.sync {d : Ds} {k : Nat} (h : OkN d k) (s : List UInt8) : OkN (dSync d s).2 k := by
  have h1 := chFuse_range (ok := true) h.f0 h.f1
  unfold dSync
  split
  · exact h
  · split
    · exact h.burn _
    · exact ⟨h.n, h.r0, h.r1, h.s0, h.s1, h1.1, h1.2⟩
theorem OkN.del {d : Ds} {k : Nat} (h : OkN d k) (s : List UInt8) : OkN (dDel d s).2 k := by
  have h1 := chFuse_range (ok := true) h.f0 h.f1
  unfold dDel
  split
  · exact h
  · split
    · exact h.burn _
    · exact ⟨h.n, h.r0, h.r1, h.s0, h.s1, h1.1, h1.2⟩
theorem OkN.ren {d : Ds} {k : Nat} (h : OkN d (k + 1)) (a z : List UInt8) : OkN (dRen d a z).2 k := by
  have h1 := chFuse_range (ok := true) h.f0 h.f1
  have hn := h.n
  unfold dRen
  split
  · exact (h.burn _).mono (by omega)
  · split
    · exact (h.burn _).mono (by omega)
    · exact ⟨by show d.n + 1 + k ≤ _; omega, h.r0, h.r1, h.s0, h.s1, h1.1, h1.2⟩
theorem OkN.cut {d : Ds} {k : Nat} (h : OkN d k) (s : List UInt8) (x : Int) : OkN (dCut d s x).2 k := by
  have h1 := chFuse_range (ok := true) h.f0 h.f1
  unfold dCut
  split
  · exact h.burn _
  · split
    · exact h.burn _
    · exact ⟨h.n, h.r0, h.r1, h.s0, h.s1, h1.1, h1.2⟩
section
variable {w w' : World} {gl gd Z : Nat} {H : List Nat} {d : Ds} {l : List Nat} {dead : Bool}
theorem ld_append (h : LD w gl gd Z H d l dead) (ho : d.Ok) (s : ByteArray) (A : Option Addr) (m c : Nat) (b : List UInt8) (hs : s.size ≤ reach) (hr : RdB w A b) (hm : b.length = m) (hmc : m ≤ c) (hml : m ≤ reach) :
    Calls Tryz.prog 21 #[gp gd, .string s, .slice A m c] w fun e w' => e = .returned (.tuple #[.int .i64 ((dApp d s.data.toList b).2.1 : Int), .int .i64 (dApp d s.data.toList b).1]) ∧ LStp w w' gl gd Z H (dApp d s.data.toList b).2.2 l dead := by
  obtain ⟨F, hD, hst⟩ := h.disk
  exact (dd_append hD ho s A m c b hs hr hm hmc hml).mono fun e w' ⟨he, ha⟩ => ⟨he, hst ha⟩
theorem ld_sync (h : LD w gl gd Z H d l dead) (ho : d.Ok) (s : ByteArray) (hs : s.size ≤ reach) :
    Calls Tryz.prog 24 #[gp gd, .string s] w fun e w' => e = .returned (.int .i64 (dSync d s.data.toList).1) ∧ LStp w w' gl gd Z H (dSync d s.data.toList).2 l dead := by
  obtain ⟨F, hD, hst⟩ := h.disk
  exact (dd_sync hD ho s hs).mono fun e w' ⟨he, ha⟩ => ⟨he, hst ha⟩
theorem ld_remove (h : LD w gl gd Z H d l dead) (ho : d.Ok) (s : ByteArray) (hs : s.size ≤ reach) :
    Calls Tryz.prog 30 #[gp gd, .string s] w fun e w' => e = .returned (.int .i64 (dDel d s.data.toList).1) ∧ LStp w w' gl gd Z H (dDel d s.data.toList).2 l dead := by
  obtain ⟨F, hD, hst⟩ := h.disk
  exact (dd_remove hD ho s hs).mono fun e w' ⟨he, ha⟩ => ⟨he, hst ha⟩
theorem ld_rename (h : LD w gl gd Z H d l dead) (ho : d.Ok) (s t : ByteArray) (hs : s.size ≤ reach) (ht : t.size ≤ reach) :
    Calls Tryz.prog 28 #[gp gd, .string s, .string t] w fun e w' => e = .returned (.int .i64 (dRen d s.data.toList t.data.toList).1) ∧ LStp w w' gl gd Z H (dRen d s.data.toList t.data.toList).2 l dead := by
  obtain ⟨F, hD, hst⟩ := h.disk
  exact (dd_rename hD ho s t hs ht).mono fun e w' ⟨he, ha⟩ => ⟨he, hst ha⟩
theorem ld_cut (h : LD w gl gd Z H d l dead) (ho : d.Ok) (s : ByteArray) (k : Int) (hs : s.size ≤ reach) :
    Calls Tryz.prog 26 #[gp gd, .string s, .int .i64 k] w fun e w' => e = .returned (.int .i64 (dCut d s.data.toList k).1) ∧ LStp w w' gl gd Z H (dCut d s.data.toList k).2 l dead := by
  obtain ⟨F, hD, hst⟩ := h.disk
  exact (dd_cut hD ho s k hs).mono fun e w' ⟨he, ha⟩ => ⟨he, hst ha⟩
theorem LStp.wider {B : List Nat} {d' : Ds} {l' : List Nat} {dead' : Bool} (h : LStp w w' gl gd Z H d' l' dead') (hz : ∀ x ∈ H, Z ≤ x) (hB : ∀ x ∈ B, x ∉ H ∧ Z ≤ x) : LStp w w' gl gd Z (B ++ H) d' l' dead' := by
  obtain ⟨H', h1, h2, h3⟩ := h
  exact ⟨H', h1, h2.mono fun x hx => List.mem_append_right _ hx, fun x hx => (h3 x hx).elim (fun h => .inl (List.mem_append_right _ h)) .inr⟩
/-! ### write -/
def freshN : List UInt8 := [109, 97, 110, 105, 102, 101, 115, 116, 46, 110, 101, 119]
def manN : List UInt8 := [109, 97, 110, 105, 102, 101, 115, 116]
theorem fresh_append (h : LD w gl gd Z H d l dead) (ho : d.Ok) (A : Option Addr) (m c : Nat) (b : List UInt8) (hr : RdB w A b) (hm : b.length = m) (hmc : m ≤ c) (hml : m ≤ reach) :
    Calls Tryz.prog 21 #[gp gd, .string ⟨#[109, 97, 110, 105, 102, 101, 115, 116, 46, 110, 101, 119]⟩, .slice A m c] w fun e w' => e = .returned (.tuple #[.int .i64 ((dApp d freshN b).2.1 : Int), .int .i64 (dApp d freshN b).1]) ∧ LStp w w' gl gd Z H (dApp d freshN b).2.2 l dead :=
  ld_append h ho ⟨#[109, 97, 110, 105, 102, 101, 115, 116, 46, 110, 101, 119]⟩ A m c b (by unfold reach; decide) hr hm hmc hml
theorem fresh_sync (h : LD w gl gd Z H d l dead) (ho : d.Ok) :
    Calls Tryz.prog 24 #[gp gd, .string ⟨#[109, 97, 110, 105, 102, 101, 115, 116, 46, 110, 101, 119]⟩] w fun e w' => e = .returned (.int .i64 (dSync d freshN).1) ∧ LStp w w' gl gd Z H (dSync d freshN).2 l dead :=
  ld_sync h ho ⟨#[109, 97, 110, 105, 102, 101, 115, 116, 46, 110, 101, 119]⟩ (by unfold reach; decide)
theorem fresh_remove (h : LD w gl gd Z H d l dead) (ho : d.Ok) :
    Calls Tryz.prog 30 #[gp gd, .string ⟨#[109, 97, 110, 105, 102, 101, 115, 116, 46, 110, 101, 119]⟩] w fun e w' => e = .returned (.int .i64 (dDel d freshN).1) ∧ LStp w w' gl gd Z H (dDel d freshN).2 l dead :=
  ld_remove h ho ⟨#[109, 97, 110, 105, 102, 101, 115, 116, 46, 110, 101, 119]⟩ (by unfold reach; decide)
theorem fresh_rename (h : LD w gl gd Z H d l dead) (ho : d.Ok) :
    Calls Tryz.prog 28 #[gp gd, .string ⟨#[109, 97, 110, 105, 102, 101, 115, 116, 46, 110, 101, 119]⟩, .string ⟨#[109, 97, 110, 105, 102, 101, 115, 116]⟩] w fun e w' => e = .returned (.int .i64 (dRen d freshN manN).1) ∧ LStp w w' gl gd Z H (dRen d freshN manN).2 l dead :=
  ld_rename h ho ⟨#[109, 97, 110, 105, 102, 101, 115, 116, 46, 110, 101, 119]⟩ ⟨#[109, 97, 110, 105, 102, 101, 115, 116]⟩ (by unfold reach; decide) (by unfold reach; decide)
def manB (ss : List Nat) : List UInt8 := ss.flatMap fun n => putl n 8
theorem manB_length (ss : List Nat) : (manB ss).length = 8 * ss.length := by
  induction ss with
  | nil => rfl
  | cons n r ih =>
    show (putl n 8 ++ manB r).length = _
    rw [List.length_append, putl_length, ih, List.length_cons]
    omega
def wrt3 (d : Ds) (ss : List Nat) : Int × Ds :=
  if (dApp d freshN (frm (manB ss))).1 ≠ 0 then ((dApp d freshN (frm (manB ss))).1, (dApp d freshN (frm (manB ss))).2.2)
  else if (dSync (dApp d freshN (frm (manB ss))).2.2 freshN).1 ≠ 0 then dSync (dApp d freshN (frm (manB ss))).2.2 freshN
  else dRen (dSync (dApp d freshN (frm (manB ss))).2.2 freshN).2 freshN manN
def lWrite (d : Ds) (l : List Nat) (dead : Bool) (ss : List Nat) : Int × Ds × List Nat × Bool :=
  if (wrt3 d ss).1 = 0 then (0, (wrt3 d ss).2, ss, dead)
  else ((wrt3 d ss).1, (dDel (wrt3 d ss).2 freshN).2, l, (dead || decide ((dDel (wrt3 d ss).2 freshN).1 = 62)) || decide ((wrt3 d ss).1 = 62))
theorem man_calls (h : LD w gl gd Z H d l dead) (ho : OkN d 2) (A : Option Addr) (c : Nat) (ss : List Nat) (hr : Rd w A (its ss)) (hcap : RowOk A ss.length c) (hA : ∀ a, A = some a → a.block ∉ H ∧ Z ≤ a.block ∧ a.block < w.heap.size) (h1 : 1 ≤ ss.length) (h2 : ss.length ≤ 500) (h9 : ∀ n ∈ ss, n ≤ 99999999) :
    Calls Tryz.prog 42 #[gp gl, .slice A ss.length c] w fun e w' => e = .returned (.int .i64 (lWrite d l dead ss).1) ∧ LStp w w' gl gd Z (blkOf A ++ H) (lWrite d l dead ss).2.1 (lWrite d l dead ss).2.2.1 (lWrite d l dead ss).2.2.2 := by
  have htb := h.tb
  have hzs := h.zs
  have HZ := Shut.mk h.z
  have HA : Shut (∀ x ∈ blkOf A, x ∉ H ∧ Z ≤ x) := ⟨fun x hx => by
    cases A with
    | none => cases hx
    | some a =>
      obtain rfl : x = a.block := by simpa [blkOf] using hx
      exact ⟨(hA a rfl).1, (hA a rfl).2.1⟩⟩
  have HA2 := Shut.mk hA
  have HCAP := Shut.mk hcap
  have HR := Shut.mk hr
  have HT := Shut.mk htb
  have HLL := Shut.mk h9
  have HL := Shut.mk h
  have HO := Shut.mk ho
  obtain ⟨N, hN⟩ : ∃ N, N = ss.length := ⟨_, rfl⟩
  rw [← hN] at h1 h2 ⊢
  have HN := Shut.mk hN
  clear hr hA h htb h9 ho hN hcap
  go_enter Tryz.func42, Tryz.ntmps42
  go_wp2_with fail
  go_loopw [5, 12] (fun u i wr => ∃ k : Nat, k ≤ N ∧ i = .int .i64 k ∧ Own wr 5 1 u (8 * k) (bys (manB (ss.take k))) ∧ Shut (∀ g, u.ownBlock = some g → w.heap.size ≤ g) ∧ Below w.heap.size w wr) (fun _ i _ => N - (intOf i).toNat)
  case atStart => exact ⟨0, Nat.zero_le _, rfl, Own.nil _ _ _, ⟨fun g hg => by cases hg⟩, Below.refl _ _⟩
  case round =>
    obtain ⟨k, hk, rfl, ho, hnw, hbr⟩ := hrel
    obtain ⟨A1, c1, rfl, _⟩ := ho.form
    have hsz := hbr.size
    by_cases hlt : k < N
    · have hkl : k < ss.length := by rw [← HN.out]; exact hlt
      obtain ⟨a, hA, hc⟩ := HR.out (its_ne (fun e => by rw [e] at hkl; simp at hkl))
      subst hA
      have c0 := hc k _ (its_get hkl)
      have c2 := (hbr.cell (World.block_lt_of_cell? w _ c0)).trans c0
      obtain ⟨n, hn⟩ : ∃ n, n = ss[k] := ⟨_, rfl⟩
      have hn9 : n ≤ 99999999 := by rw [hn]; exact HLL.out _ (List.getElem_mem _)
      rw [← hn] at c2
      have HN2 := Shut.mk hn
      have HMS := Shut.mk (show manB (ss.take (k + 1)) = manB (ss.take k) ++ putl n 8 by rw [List.take_succ_eq_append_getElem hkl, hn]; unfold manB; rw [List.flatMap_append, List.flatMap_cons, List.flatMap_nil, List.append_nil])
      have HO2 := Shut.mk ho
      have HB := Shut.mk hbr
      have hkI : (k : Int) < (N : Int) := by omega
      have HM := Shut.mk (show (manB (ss.take k)).length = 8 * k by rw [manB_length, List.length_take, Nat.min_eq_left (Nat.le_of_lt hkl)])
      clear hc c0 hn ho hbr
      go_wp2_with fail
      refine (put_calls _ (manB (ss.take k)) n 8 w.heap.size wr (HO2.out.cast (by rw [HM.out]) rfl) hsz hnw.out (by omega) (by omega) (by rw [HM.out]; omega)).mono ?_
      rintro e w2 ⟨v2, rfl, ho2, hb2, hn2⟩
      rw [HM.out] at ho2
      go_wp2_with fail
      go_roundw
      case rel =>
        refine ⟨k + 1, by omega, by go_num, ho2.cast (by omega) ?_, ⟨hn2⟩, HB.out.trans hb2⟩
        rw [HMS.out]
      case measure => first | (simp [intOf]; done) | (simp [intOf]; omega)
    · obtain rfl : k = N := by omega
      rw [List.take_of_length_le (by rw [← HN.out]; exact Nat.le_refl _)] at ho
      have HM := Shut.mk (show (manB ss).length = 8 * k by rw [manB_length, HN.out])
      have HRB := Shut.mk (rdb_own _ ho)
      have HB := Shut.mk hbr
      have HTW := Shut.mk (HT.out.below (hbr.mono hzs))
      clear ho hbr
      go_wp2_with fail
      refine (frame_calls A1 c1 (8 * k) (manB ss) wr HRB.out HM.out (by omega) (by omega) HTW.out.k HTW.out.b).mono ?_
      rintro e w2 ⟨v2, rfl, ho2, hb2, hn2⟩
      obtain ⟨A2, c2, rfl, _, hac2, _⟩ := ho2.form
      have HB2 := Shut.mk (HB.out.trans (hb2.mono HB.out.size))
      have hL2 := HL.out.quiet HB2.out
      have HFB := Shut.mk (rdb_own _ ho2)
      have HFL := Shut.mk (show (frm (manB ss)).length = 40 + 8 * k by rw [frm_length, HM.out])
      have HO2 := Shut.mk ho2
      obtain ⟨A4, c4, g1, g2, g3, g4, g5⟩ := hL2.log
      have t0 : w2.cell? ⟨gl, 0, none⟩ = some (gp gd) := g1.cell 0
      clear g1 g2 g3 g4 g5 ho2
      have HL2 := Shut.mk hL2
      clear hL2
      go_wp2_with fail
      refine (fresh_append HL2.out HO.out.ok A2 (40 + 8 * k) c2 (frm (manB ss)) HFB.out HFL.out hac2 (by unfold reach; omega)).mono ?_
      rintro e w3 ⟨rfl, hst⟩
      obtain ⟨H3, hL3, hk3, hs3⟩ := hst
      have HK3 := Shut.mk (show Kb w w3 H ∧ ∀ x ∈ H3, x ∈ H ∨ w.heap.size ≤ x from ⟨(Kb.of_below HB2.out H).trans hk3 (fun x hx => .inl hx), fun x hx => (hs3 x hx).imp id (fun h => Nat.le_trans HB2.out.size h)⟩)
      clear hk3 hs3
      have HO3 := Shut.mk (HO.out.app freshN (frm (manB ss)))
      by_cases hE1 : (dApp d freshN (frm (manB ss))).1 = 0
      · rw [hE1]
        have HE1 := Shut.mk hE1
        clear hE1
        obtain ⟨A4, c4, g1, g2, g3, g4, g5⟩ := hL3.log
        have t0 : w3.cell? ⟨gl, 0, none⟩ = some (gp gd) := g1.cell 0
        clear g1 g2 g3 g4 g5
        have HL3 := Shut.mk hL3
        clear hL3
        go_wp2_with fail
        refine (fresh_sync HL3.out HO3.out.ok).mono ?_
        rintro e w4 ⟨rfl, hst⟩
        obtain ⟨H4, hL4, hk4, hs4⟩ := hst
        have HK4 := Shut.mk (show Kb w w4 H ∧ ∀ x ∈ H4, x ∈ H ∨ w.heap.size ≤ x from ⟨HK3.out.1.trans hk4 HK3.out.2, fun x hx => (hs4 x hx).elim (HK3.out.2 x) (fun h => .inr (Nat.le_trans HK3.out.1.size h))⟩)
        clear hk4 hs4
        have HO4 := Shut.mk (HO3.out.sync freshN)
        by_cases hE2 : (dSync (dApp d freshN (frm (manB ss))).2.2 freshN).1 = 0
        · rw [hE2]
          have HE2 := Shut.mk hE2
          clear hE2
          obtain ⟨A4, c4, g1, g2, g3, g4, g5⟩ := hL4.log
          have t0 : w4.cell? ⟨gl, 0, none⟩ = some (gp gd) := g1.cell 0
          clear g1 g2 g3 g4 g5
          have HL4 := Shut.mk hL4
          clear hL4
          go_wp2_with fail
          refine (fresh_rename HL4.out HO4.out.ok).mono ?_
          rintro e w5 ⟨rfl, hst⟩
          obtain ⟨H5, hL5, hk5, hs5⟩ := hst
          have HK5 := Shut.mk (show Kb w w5 H ∧ ∀ x ∈ H5, x ∈ H ∨ w.heap.size ≤ x from ⟨HK4.out.1.trans hk5 HK4.out.2, fun x hx => (hs5 x hx).elim (HK4.out.2 x) (fun h => .inr (Nat.le_trans HK4.out.1.size h))⟩)
          clear hk5 hs5
          have HO5 := Shut.mk (HO4.out.ren freshN manN)
          have HW := Shut.mk (show wrt3 d ss = dRen (dSync (dApp d freshN (frm (manB ss))).2.2 freshN).2 freshN manN by unfold wrt3; rw [if_neg (by rw [HE1.out]; simp), if_neg (by rw [HE2.out]; simp)])
          by_cases hE3 : (dRen (dSync (dApp d freshN (frm (manB ss))).2.2 freshN).2 freshN manN).1 = 0
          · rw [hE3]
            have HE3 := Shut.mk hE3
            clear hE3
            obtain ⟨A4, c4, g1, g2, g3, g4, g5⟩ := hL5.log
            have u1 : w5.cell? ⟨gl, 1, none⟩ = some (.slice A4 l.length c4) := g1.cell 1
            have fr : w5.frozen? ⟨gl, 1, none⟩ = false := g1.free 1
            have HAH : Shut (∀ a, A = some a → a.block ∉ H5 ∧ Z ≤ a.block) := ⟨fun a ha => ⟨fun hx => (HK5.out.2 _ hx).elim (HA2.out a ha).1 (fun h => Nat.not_le_of_lt (HA2.out a ha).2.2 h), (HA2.out a ha).2.1⟩⟩
            have HFIN := Shut.mk (g5 A c ss (rd_kept HR.out HK5.out.1 (fun a ha _ => (HA2.out a ha).1)) HCAP.out HAH.out)
            have HGL := Shut.mk hL5.gl
            clear g1 g2 g3 g4 g5 hL5
            go_wp2_with fail
            go_ret
            have hw : lWrite d l dead ss = (0, (dRen (dSync (dApp d freshN (frm (manB ss))).2.2 freshN).2 freshN manN).2, ss, dead) := by
              unfold lWrite
              rw [HW.out, if_pos HE3.out]
            rw [hw]
            have hfin := HFIN.out
            rw [HN.out.symm] at hfin
            refine ⟨rfl, blkOf A ++ H5, hfin, ?_, fun x hx => ?_⟩
            · refine (HK5.out.1.mono (fun x hx => List.mem_append_right _ hx)).trans ((Kb.refl w5 _).setCell (p := ⟨gl, 1, none⟩) (L := [gl]) (by simp) _) (fun x hx => ?_)
              obtain rfl : x = gl := by simpa using hx
              exact (HK5.out.2 _ HGL.out).imp (fun h => List.mem_append_right _ h) id
            · rcases List.mem_append.1 hx with h | h
              · exact .inl (List.mem_append_left _ h)
              · exact (HK5.out.2 x h).imp (fun h => List.mem_append_right _ h) id
          · obtain ⟨E3, hE⟩ : ∃ E3, E3 = (dRen (dSync (dApp d freshN (frm (manB ss))).2.2 freshN).2 freshN manN).1 := ⟨_, rfl⟩
            rw [← hE] at hE3 ⊢
            have HE := Shut.mk hE
            clear hE
            obtain ⟨A4, c4, g1, g2, g3, g4, g5⟩ := hL5.log
            have t0 : w5.cell? ⟨gl, 0, none⟩ = some (gp gd) := g1.cell 0
            clear g1 g2 g3 g4 g5
            have HL5 := Shut.mk hL5
            have HX := Shut.mk (show wrt3 d ss = (E3, (dRen (dSync (dApp d freshN (frm (manB ss))).2.2 freshN).2 freshN manN).2) by rw [HW.out, HE.out])
            have HOK := Shut.mk (HO5.out.ok)
            clear hL5
            go_wp2_with fail
            refine (fresh_remove HL5.out HOK.out).mono ?_
            rintro e w8 ⟨rfl, hst⟩
            obtain ⟨H8, hL8, hk8, hs8⟩ := hst
            go_wp2_with fail
            refine (note_calls hL8 _).mono ?_
            rintro e w9 ⟨rfl, hst⟩
            obtain ⟨H9, hL9, hk9, hs9⟩ := hst
            go_wp2_with fail
            refine (note_calls hL9 _).mono ?_
            rintro e w10 ⟨rfl, hst⟩
            go_wp2_with fail
            go_ret
            have hfin := LStp.trans HK5.out.1 HK5.out.2 (LStp.trans hk8 hs8 (LStp.trans hk9 hs9 hst))
            have hw : lWrite d l dead ss = (E3, (dDel (dRen (dSync (dApp d freshN (frm (manB ss))).2.2 freshN).2 freshN manN).2 freshN).2, l, (dead || decide ((dDel (dRen (dSync (dApp d freshN (frm (manB ss))).2.2 freshN).2 freshN manN).2 freshN).1 = 62)) || decide (E3 = 62)) := by
              unfold lWrite
              rw [HX.out, if_neg hE3]
            rw [hw]
            exact ⟨rfl, LStp.wider hfin HZ.out HA.out⟩
        · obtain ⟨E2, hE⟩ : ∃ E2, E2 = (dSync (dApp d freshN (frm (manB ss))).2.2 freshN).1 := ⟨_, rfl⟩
          rw [← hE] at hE2 ⊢
          have HE := Shut.mk hE
          clear hE
          obtain ⟨A4, c4, g1, g2, g3, g4, g5⟩ := hL4.log
          have t0 : w4.cell? ⟨gl, 0, none⟩ = some (gp gd) := g1.cell 0
          clear g1 g2 g3 g4 g5
          have HL4 := Shut.mk hL4
          have HX := Shut.mk (show wrt3 d ss = (E2, (dSync (dApp d freshN (frm (manB ss))).2.2 freshN).2) by unfold wrt3; rw [if_neg (by rw [HE1.out]; simp), if_pos (by rw [← HE.out]; exact hE2), HE.out])
          have HOK := Shut.mk (HO4.out.ok)
          clear hL4
          go_wp2_with fail
          refine (fresh_remove HL4.out HOK.out).mono ?_
          rintro e w8 ⟨rfl, hst⟩
          obtain ⟨H8, hL8, hk8, hs8⟩ := hst
          go_wp2_with fail
          refine (note_calls hL8 _).mono ?_
          rintro e w9 ⟨rfl, hst⟩
          obtain ⟨H9, hL9, hk9, hs9⟩ := hst
          go_wp2_with fail
          refine (note_calls hL9 _).mono ?_
          rintro e w10 ⟨rfl, hst⟩
          go_wp2_with fail
          go_ret
          have hfin := LStp.trans HK4.out.1 HK4.out.2 (LStp.trans hk8 hs8 (LStp.trans hk9 hs9 hst))
          have hw : lWrite d l dead ss = (E2, (dDel (dSync (dApp d freshN (frm (manB ss))).2.2 freshN).2 freshN).2, l, (dead || decide ((dDel (dSync (dApp d freshN (frm (manB ss))).2.2 freshN).2 freshN).1 = 62)) || decide (E2 = 62)) := by
            unfold lWrite
            rw [HX.out, if_neg hE2]
          rw [hw]
          exact ⟨rfl, LStp.wider hfin HZ.out HA.out⟩
      · obtain ⟨E1, hE⟩ : ∃ E1, E1 = (dApp d freshN (frm (manB ss))).1 := ⟨_, rfl⟩
        rw [← hE] at hE1 ⊢
        have HE := Shut.mk hE
        clear hE
        obtain ⟨A4, c4, g1, g2, g3, g4, g5⟩ := hL3.log
        have t0 : w3.cell? ⟨gl, 0, none⟩ = some (gp gd) := g1.cell 0
        clear g1 g2 g3 g4 g5
        have HL3 := Shut.mk hL3
        have HX := Shut.mk (show wrt3 d ss = (E1, (dApp d freshN (frm (manB ss))).2.2) by unfold wrt3; rw [if_pos (by rw [← HE.out]; exact hE1), ← HE.out])
        have HOK := Shut.mk (HO3.out.ok)
        clear hL3
        go_wp2_with fail
        refine (fresh_remove HL3.out HOK.out).mono ?_
        rintro e w8 ⟨rfl, hst⟩
        obtain ⟨H8, hL8, hk8, hs8⟩ := hst
        go_wp2_with fail
        refine (note_calls hL8 _).mono ?_
        rintro e w9 ⟨rfl, hst⟩
        obtain ⟨H9, hL9, hk9, hs9⟩ := hst
        go_wp2_with fail
        refine (note_calls hL9 _).mono ?_
        rintro e w10 ⟨rfl, hst⟩
        go_wp2_with fail
        go_ret
        have hfin := LStp.trans HK3.out.1 HK3.out.2 (LStp.trans hk8 hs8 (LStp.trans hk9 hs9 hst))
        have hw : lWrite d l dead ss = (E1, (dDel (dApp d freshN (frm (manB ss))).2.2 freshN).2, l, (dead || decide ((dDel (dApp d freshN (frm (manB ss))).2.2 freshN).1 = 62)) || decide (E1 = 62)) := by
          unfold lWrite
          rw [HX.out, if_neg hE1]
        rw [hw]
        exact ⟨rfl, LStp.wider hfin HZ.out HA.out⟩
end
end Go.Proofs.YtmlfeljhojmbbaaGreatDoor

namespace Go.Proofs.YtmlfeljhojmbbaaGreatDoor
open Go.RowKit Go.Maps Go.Sort
set_option linter.unusedSimpArgs false
set_option linter.unusedVariables false
set_option maxRecDepth 100000

/-! ### files by their names -/
theorem look_nil (s : List UInt8) : look [] s = none := rfl
theorem look_cons (x : Fl) (S : List Fl) (s : List UInt8) : look (x :: S) s = if x.1 = s then some x.2 else look S s := by
  unfold look
  rw [List.find?_cons]
  by_cases h : x.1 = s
  · simp [h]
  · have h' : (x.1 == s) = false := by simpa using h
    rw [h', if_neg h]
theorem look_setF (S : List Fl) (k b : List UInt8) (sy : Nat) (s : List UInt8) : look (setF S k b sy) s = if s = k then (look S k).map (fun _ => (b, sy)) else look S s := by
  induction S with
  | nil => simp [setF, look_nil]
  | cons x r ih =>
    show look ((if x.1 == k then (k, b, sy) else x) :: setF r k b sy) s = _
    rw [look_cons, look_cons, look_cons, ih]
    by_cases h2 : s = k
    · subst h2
      by_cases h : x.1 = s <;> simp [h]
    · by_cases h : x.1 = k
      · simp [h, h2, Ne.symm h2]
      · simp [h, h2]
theorem look_delF (S : List Fl) (k s : List UInt8) : look (delF S k) s = if s = k then none else look S s := by
  induction S with
  | nil => simp [delF, look_nil]
  | cons x r ih =>
    have hr : look (delF (x :: r) k) s = if x.1 = k then look (delF r k) s else look (x :: delF r k) s := by
      unfold delF
      rw [List.filter_cons]
      by_cases h : x.1 = k <;> simp [h]
    rw [hr, look_cons, look_cons, ih]
    by_cases h2 : s = k
    · subst h2
      by_cases h : x.1 = s <;> simp [h]
    · by_cases h : x.1 = k
      · simp [h, h2, Ne.symm h2]
      · simp [h, h2]
theorem look_snoc (S : List Fl) (z b : List UInt8) (sy : Nat) (s : List UInt8) : look (S ++ [(z, b, sy)]) s = (look S s).or (if s = z then some (b, sy) else none) := by
  induction S with
  | nil =>
    rw [List.nil_append, look_cons, look_nil]
    by_cases h : s = z
    · simp [h]
    · rw [if_neg h, if_neg (fun e => h e.symm)]
      rfl
  | cons x r ih =>
    rw [List.cons_append, look_cons, look_cons, ih]
    by_cases h : x.1 = s <;> simp [h]
theorem look_renF (S : List Fl) (a z b : List UInt8) (sy : Nat) (s : List UInt8) : look (renF S a z b sy) s = if s = z then some (b, sy) else if s = a then none else look S s := by
  unfold renF
  rw [look_snoc, look_delF, look_delF]
  by_cases h : s = z
  · simp [h]
  · simp [h]
theorem look_addF (S : List Fl) (k b s : List UInt8) : look (addF S k b) s = if s = k then some ((match look S k with | some p => (p.1 ++ b, p.2) | none => (b, 0))) else look S s := by
  unfold addF
  cases h : look S k with
  | none =>
    simp only
    rw [look_snoc]
    by_cases h2 : s = k
    · subst h2
      simp [h]
    · simp [h2]
  | some p =>
    obtain ⟨b0, sy⟩ := p
    simp only
    have := look_setF S k (b0 ++ b) sy s
    unfold setF at this
    rw [this, h]
    rfl
theorem look_crashF (T : List UInt8 → Tl) (S : List Fl) (s : List UInt8) : look (crashF T S) s = (look S s).map fun p => (crashB (T s) p.1 p.2, crashN (T s) p.1.length p.2) := by
  induction S with
  | nil => rfl
  | cons x r ih =>
    show look ((x.1, crashB (T x.1) x.2.1 x.2.2, crashN (T x.1) x.2.1.length x.2.2) :: crashF T r) s = _
    rw [look_cons, look_cons, ih]
    by_cases h : x.1 = s
    · subst h
      simp
    · simp [h]
theorem look_mem {S : List Fl} {s : List UInt8} {p : List UInt8 × Nat} (h : look S s = some p) : (s, p) ∈ S := by
  unfold look at h
  cases hx : S.find? fun x => x.1 == s with
  | none => rw [hx] at h; cases h
  | some x =>
    rw [hx] at h
    have h1 : x.2 = p := by injection h
    have h2 : x.1 = s := by simpa using List.find?_some hx
    have h3 := List.mem_of_find?_eq_some hx
    rw [← h1, ← h2]
    exact h3
/-! ### how many bytes -/
theorem used_cons (x : Fl) (S : List Fl) : used (x :: S) = x.2.1.length + used S := by simp [used]
theorem used_setF_le {S : List Fl} {k b : List UInt8} {sy : Nat} (h : ∀ x ∈ S, x.1 = k → b.length ≤ x.2.1.length) : used (setF S k b sy) ≤ used S := by
  induction S with
  | nil => simp [setF]
  | cons x r ih =>
    have ih := ih fun y hy => h y (List.mem_cons_of_mem _ hy)
    show used ((if x.1 == k then (k, b, sy) else x) :: setF r k b sy) ≤ _
    rw [used_cons, used_cons]
    by_cases hx : x.1 = k
    · have := h x List.mem_cons_self hx
      simp only [hx, beq_self_eq_true, if_true]
      omega
    · simp only [beq_iff_eq, hx, if_false]
      omega
theorem used_delF_le (S : List Fl) (k : List UInt8) : used (delF S k) ≤ used S := by
  induction S with
  | nil => simp [delF]
  | cons x r ih =>
    unfold delF at *
    rw [List.filter_cons]
    split
    · rw [used_cons, used_cons]
      omega
    · rw [used_cons]
      omega
theorem used_delF_look {S : List Fl} {k b : List UInt8} {sy : Nat} (h : look S k = some (b, sy)) : used (delF S k) + b.length ≤ used S := by
  induction S with
  | nil => cases h
  | cons x r ih =>
    rw [look_cons] at h
    by_cases hx : x.1 = k
    · rw [if_pos hx] at h
      have h1 : x.2 = (b, sy) := by injection h
      have := used_delF_le r k
      unfold delF at *
      rw [List.filter_cons, used_cons, h1]
      simp only [hx, beq_self_eq_true, Bool.not_true, Bool.false_eq_true, if_false]
      omega
    · rw [if_neg hx] at h
      have := ih h
      unfold delF at *
      rw [List.filter_cons, used_cons]
      have hb : (x.1 == k) = false := by simpa using hx
      rw [hb]
      simp only [Bool.not_false, if_true]
      rw [used_cons]
      omega
theorem lenF_le7 (S : List Fl) (k : List UInt8) : lenF S k ≤ used S := by
  unfold lenF look used
  induction S with
  | nil => simp
  | cons x r ih =>
    simp only [List.find?_cons, List.map_cons, List.sum_cons]
    by_cases h : (x.1 == k) = true
    · simp [h]
    · simp only [h]
      omega
theorem map_same7 (S : List Fl) (k b0 : List UInt8) (sy : Nat) (h : ∀ x ∈ S, x.1 ≠ k) : (S.map fun x => if x.1 == k then (k, b0, sy) else x) = S := by
  conv => rhs; rw [← List.map_id S]
  refine List.map_congr_left fun x hx => ?_
  simp [h x hx]
theorem used_addF7 {S : List Fl} (hp : S.Pairwise fun a b => a.1 ≠ b.1) (k b : List UInt8) : used (addF S k b) = used S + b.length := by
  unfold addF
  cases hx : look S k with
  | none => simp [used]
  | some v =>
    obtain ⟨b0, sy⟩ := v
    simp only
    unfold look at hx
    induction S with
    | nil => simp at hx
    | cons x r ih =>
      rw [List.pairwise_cons] at hp
      rw [List.find?_cons] at hx
      by_cases h : x.1 = k
      · have hr := map_same7 r k (b0 ++ b) sy fun y hy e => hp.1 y hy (h.trans e.symm)
        simp [h] at hx
        simp only [used, List.map_cons, List.sum_cons] at *
        rw [hr]
        simp [h, hx]
        omega
      · have h' : (x.1 == k) = false := by simpa using h
        rw [h'] at hx
        have := ih hp.2 hx
        simp only [used, List.map_cons, List.sum_cons] at *
        rw [this]
        simp [h]
        omega
theorem used_append7 (S T : List Fl) : used (S ++ T) = used S + used T := by simp [used]
theorem used_renF_le {S : List Fl} {a z b : List UInt8} {sy sy' : Nat} (h : look S a = some (b, sy)) : used (renF S a z b sy') ≤ used S := by
  unfold renF
  rw [used_append7, used_cons]
  have h1 := used_delF_look h
  have h2 := used_delF_le (delF S a) z
  have h3 : used ([] : List Fl) = 0 := rfl
  simp only [h3]
  omega
theorem used_crashF_le (T : List UInt8 → Tl) (S : List Fl) : used (crashF T S) ≤ used S := by
  induction S with
  | nil => simp [crashF]
  | cons x r ih =>
    show used ((x.1, crashB (T x.1) x.2.1 x.2.2, crashN (T x.1) x.2.1.length x.2.2) :: crashF T r) ≤ _
    rw [used_cons, used_cons]
    have h1 : (crashB (T x.1) x.2.1 x.2.2).length ≤ x.2.1.length := by
      unfold crashB
      simp only
      split <;> simp <;> omega
    simp only
    omega
/-! ### rising rows with the same members -/
theorem rising_ext {a b : List (List UInt8)} (ha : a.Pairwise (· < ·)) (hb : b.Pairwise (· < ·)) (h : ∀ x, x ∈ a ↔ x ∈ b) : a = b := by
  induction a generalizing b with
  | nil =>
    cases b with
    | nil => rfl
    | cons y r => exact absurd ((h y).2 List.mem_cons_self) (by simp)
  | cons x r ih =>
    cases b with
    | nil => exact absurd ((h x).1 List.mem_cons_self) (by simp)
    | cons y s =>
      rw [List.pairwise_cons] at ha hb
      have hxy : x = y := by
        rcases List.mem_cons.1 ((h x).1 List.mem_cons_self) with e | e
        · exact e
        · rcases List.mem_cons.1 ((h y).2 List.mem_cons_self) with e2 | e2
          · exact e2.symm
          · exact absurd (List.lt_trans (ha.1 y e2) (hb.1 x e)) (List.lt_irrefl _)
      subst hxy
      rw [ih ha.2 hb.2 fun z => ?_]
      constructor
      · intro hz
        rcases List.mem_cons.1 ((h z).1 (List.mem_cons_of_mem _ hz)) with e | e
        · subst e
          exact absurd (ha.1 z hz) (List.lt_irrefl _)
        · exact e
      · intro hz
        rcases List.mem_cons.1 ((h z).2 (List.mem_cons_of_mem _ hz)) with e | e
        · subst e
          exact absurd (hb.1 z hz) (List.lt_irrefl _)
        · exact e
theorem lsD_ext {d d' : Ds} (h : (d.S.Pairwise fun a b => a.1 ≠ b.1)) (h' : (d'.S.Pairwise fun a b => a.1 ≠ b.1)) (he : ∀ s, look d.S s = none ↔ look d'.S s = none) : lsD d = lsD d' :=
  rising_ext (lsD_rising h) (lsD_rising h') fun s => by rw [lsD_mem, lsD_mem, Ne, Ne, he]
/-! ### segments' names -/
def valD (l : List UInt8) : Nat := l.foldl (fun a d => 10 * a + (d.toNat - 48)) 0
theorem valD_zeros (k : Nat) (l : List UInt8) : valD (List.replicate k 48 ++ l) = valD l := by
  unfold valD
  rw [List.foldl_append]
  congr 1
  induction k with
  | zero => rfl
  | succ k ih =>
    rw [List.replicate_succ, List.foldl_cons]
    exact ih
theorem decDigits_big {u : Nat} (h : ¬ u < 10) : Lib.decDigits u = Lib.decDigits (u / 10) ++ [UInt8.ofNat (48 + u % 10)] := by
  rw [Lib.decDigits, dif_neg h]
theorem valD_dec (n : Nat) : valD (Lib.decDigits n) = n := by
  induction n using Nat.strongRecOn with
  | ind n ih =>
    by_cases h : n < 10
    · rw [Lib.decDigits_one h]
      simp only [valD, List.foldl_cons, List.foldl_nil, UInt8.toNat_ofNat']
      omega
    · rw [decDigits_big h]
      unfold valD at *
      rw [List.foldl_append, ih (n / 10) (by omega)]
      simp only [List.foldl_cons, List.foldl_nil, UInt8.toNat_ofNat']
      omega
theorem seg_inj {m n : Nat} (h : seg m = seg n) : m = n := by
  have h1 : valD (List.replicate (8 - Lib.nDigits m) 48 ++ Lib.decDigits m) = valD (List.replicate (8 - Lib.nDigits n) 48 ++ Lib.decDigits n) := by
    unfold seg at h
    rw [List.cons.injEq] at h
    rw [h.2]
  rwa [valD_zeros, valD_zeros, valD_dec, valD_dec] at h1
/-! ### frames -/
def Okr (r : List UInt8) : Prop := 1 ≤ r.length ∧ r.length ≤ 4000
def frs (rs : List (List UInt8)) : List UInt8 := rs.flatMap frm
theorem frs_nil : frs [] = [] := rfl
theorem frs_cons (r : List UInt8) (rs : List (List UInt8)) : frs (r :: rs) = frm r ++ frs rs := rfl
theorem frs_append (a b : List (List UInt8)) : frs (a ++ b) = frs a ++ frs b := by simp [frs]
theorem frs_one (r : List UInt8) : frs [r] = frm r := by simp [frs]
def num4 (b : List UInt8) : Nat := (b.getD 0 0).toNat * 16777216 + (b.getD 1 0).toNat * 65536 + (b.getD 2 0).toNat * 256 + (b.getD 3 0).toNat
/-- the record at the beginning of bytes -/
def fstL (b : List UInt8) : Option (List UInt8) :=
  if b.length ≤ 40 then none
  else if num4 b < 1 ∨ 4000 < num4 b ∨ b.length < 40 + num4 b then none
  else if frm ((b.drop 40).take (num4 b)) = b.take (40 + num4 b) then some ((b.drop 40).take (num4 b)) else none
theorem putl4 (n : Nat) : putl n 4 = [UInt8.ofNat (n / 16777216), UInt8.ofNat (n / 65536), UInt8.ofNat (n / 256), UInt8.ofNat n] := by
  simp [putl, List.range, List.range.loop, Psha.be]
theorem num4_putl (n : Nat) (h : n < 4294967296) (x : List UInt8) : num4 (putl n 4 ++ x) = n := by
  rw [putl4]
  simp only [num4, List.cons_append, List.nil_append, List.getD_cons_zero, List.getD_cons_succ, UInt8.toNat_ofNat']
  omega
theorem putl4_inj {m n : Nat} (hm : m < 4294967296) (hn : n < 4294967296) (h : putl m 4 = putl n 4) : m = n := by
  have h1 := num4_putl m hm []
  have h2 := num4_putl n hn []
  rw [h] at h1
  omega
theorem frm_take4 (r : List UInt8) : (frm r).take 4 = putl r.length 4 := by
  unfold frm
  rw [List.append_assoc, List.append_assoc, List.take_append_of_le_length (by rw [putl_length]; omega), List.take_of_length_le (by rw [putl_length]; omega)]
theorem frm_take8 (r : List UInt8) : (frm r).take 8 = putl r.length 4 ++ putl (Pcrc.crc r).toNat 4 := by
  unfold frm
  rw [List.append_assoc, List.take_append_of_le_length (by simp [putl_length]), List.take_of_length_le (by simp [putl_length])]
theorem frm_drop (r : List UInt8) : (frm r).drop 40 = r := by
  unfold frm
  rw [List.drop_append_of_le_length (by simp [putl_length, Psha.sha_length]), List.drop_of_length_le (by simp [putl_length, Psha.sha_length])]
  rfl
theorem num4_of_take {b : List UInt8} {n : Nat} (hn : n < 4294967296) (h : b.take 4 = putl n 4) : num4 b = n := by
  have e : b = putl n 4 ++ b.drop 4 := by rw [← h, List.take_append_drop]
  rw [e]
  exact num4_putl n hn _
theorem fstL_some {b r : List UInt8} (h : fstL b = some r) : Okr r ∧ b = frm r ++ b.drop (40 + r.length) := by
  unfold fstL at h
  split at h
  · cases h
  · split at h
    · cases h
    · split at h
      · rename_i h1 h2 h3
        injection h with h
        have hl : ((b.drop 40).take (num4 b)).length = num4 b := by rw [List.length_take, List.length_drop]; omega
        rw [← h]
        refine ⟨⟨by rw [hl]; omega, by rw [hl]; omega⟩, ?_⟩
        rw [h3, hl, List.take_append_drop]
      · cases h
theorem fstL_frm {r : List UInt8} (h : Okr r) (x : List UInt8) : fstL (frm r ++ x) = some r := by
  obtain ⟨h1, h2⟩ := h
  have hn : num4 (frm r ++ x) = r.length := num4_of_take (by omega) (by rw [List.take_append_of_le_length (by rw [frm_length]; omega), frm_take4])
  have hd : ((frm r ++ x).drop 40).take r.length = r := by
    rw [List.drop_append_of_le_length (by rw [frm_length]; omega), frm_drop, List.take_append_of_le_length (Nat.le_refl _), List.take_of_length_le (Nat.le_refl _)]
  unfold fstL
  rw [hn, hd, if_neg (by rw [List.length_append, frm_length]; omega), if_neg (by rw [List.length_append, frm_length]; omega), if_pos]
  rw [List.take_append_of_le_length (by rw [frm_length]; omega), List.take_of_length_le (by rw [frm_length]; omega)]
/-- the records at the beginning of bytes -/
def rdF : Nat → List UInt8 → List (List UInt8)
  | 0, _ => []
  | f + 1, b => match fstL b with
    | none => []
    | some r => r :: rdF f (b.drop (40 + r.length))
def rdL (b : List UInt8) : List (List UInt8) := rdF b.length b
theorem rdF_more : ∀ (f : Nat) (b : List UInt8), b.length ≤ f → rdF f b = rdF b.length b
  | 0, b, h => by
    obtain rfl : b = [] := List.eq_nil_of_length_eq_zero (by omega)
    rfl
  | f + 1, b, h => by
    by_cases hb : b.length = f + 1
    · rw [hb]
    · cases hl : b.length with
      | zero =>
        obtain rfl : b = [] := List.eq_nil_of_length_eq_zero hl
        rfl
      | succ g =>
        unfold rdF
        cases hf : fstL b with
        | none => rfl
        | some r =>
          have h1 : (b.drop (40 + r.length)).length ≤ g := by rw [List.length_drop]; omega
          simp only
          rw [rdF_more f _ (by omega), rdF_more g _ h1]
theorem rdL_eq (b : List UInt8) : rdL b = match fstL b with | none => [] | some r => r :: rdL (b.drop (40 + r.length)) := by
  cases hl : b.length with
  | zero =>
    obtain rfl : b = [] := List.eq_nil_of_length_eq_zero hl
    rfl
  | succ g =>
    unfold rdL
    rw [hl]
    show (match fstL b with | none => [] | some r => r :: rdF g (b.drop (40 + r.length))) = _
    cases hf : fstL b with
    | none => rfl
    | some r =>
      simp only
      rw [rdF_more g _ (by rw [List.length_drop]; omega)]
theorem rdL_none {b : List UInt8} (h : fstL b = none) : rdL b = [] := by rw [rdL_eq, h]
theorem rdL_some {b r : List UInt8} (h : fstL b = some r) : rdL b = r :: rdL (b.drop (40 + r.length)) := by rw [rdL_eq, h]
theorem rdL_frm {r : List UInt8} (h : Okr r) (x : List UInt8) : rdL (frm r ++ x) = r :: rdL x := by
  rw [rdL_some (fstL_frm h x), List.drop_append, List.drop_of_length_le (by rw [frm_length]; omega), frm_length, Nat.sub_self]
  rfl
theorem rdL_nil : rdL [] = [] := rfl
theorem rdL_frs {rs : List (List UInt8)} (h : ∀ r ∈ rs, Okr r) (x : List UInt8) : rdL (frs rs ++ x) = rs ++ rdL x := by
  induction rs with
  | nil => rfl
  | cons r rs ih =>
    rw [frs_cons, List.append_assoc, rdL_frm (h r List.mem_cons_self), ih fun y hy => h y (List.mem_cons_of_mem _ hy)]
    rfl
theorem rdL_whole {rs : List (List UInt8)} (h : ∀ r ∈ rs, Okr r) : rdL (frs rs) = rs := by
  have := rdL_frs h []
  rwa [List.append_nil, rdL_nil, List.append_nil] at this
theorem rdL_split : ∀ (f : Nat) (b : List UInt8), b.length ≤ f → (∀ r ∈ rdL b, Okr r) ∧ b = frs (rdL b) ++ b.drop (frs (rdL b)).length
  | 0, b, h => by
    obtain rfl : b = [] := List.eq_nil_of_length_eq_zero (by omega)
    exact ⟨(fun r hr => by cases hr), rfl⟩
  | f + 1, b, h => by
    cases hf : fstL b with
    | none =>
      rw [rdL_none hf]
      exact ⟨(fun r hr => by cases hr), rfl⟩
    | some r =>
      obtain ⟨h1, h2⟩ := fstL_some hf
      rw [rdL_some hf]
      have hfl := frm_length r
      have hlb : b.length = (frm r).length + (b.drop (40 + r.length)).length := by
        conv => lhs; rw [h2]
        rw [List.length_append]
      obtain ⟨h3, h4⟩ := rdL_split f (b.drop (40 + r.length)) (by omega)
      refine ⟨fun x hx => ?_, ?_⟩
      · rcases List.mem_cons.1 hx with rfl | hx
        · exact h1
        · exact h3 x hx
      · have e : b.drop (40 + r.length + (frs (rdL (b.drop (40 + r.length)))).length) = (b.drop (40 + r.length)).drop (frs (rdL (b.drop (40 + r.length)))).length := by rw [List.drop_drop]
        rw [frs_cons, List.length_append, hfl, List.append_assoc, e, ← h4]
        exact h2
theorem rdL_ok (b : List UInt8) : ∀ r ∈ rdL b, Okr r := (rdL_split _ b (Nat.le_refl _)).1
theorem rdL_take (b : List UInt8) : b.take (frs (rdL b)).length = frs (rdL b) := by
  have h := (rdL_split _ b (Nat.le_refl _)).2
  generalize frs (rdL b) = x at *
  rw [h, List.take_append_of_le_length (Nat.le_refl _), List.take_of_length_le (Nat.le_refl _)]
theorem rdL_len (b : List UInt8) : (frs (rdL b)).length ≤ b.length := by
  have h := congrArg List.length (rdL_take b)
  rw [List.length_take] at h
  omega
theorem frs_length_take (rs : List (List UInt8)) (i : Nat) : (frs (rs.take i)).length ≤ (frs rs).length := by
  conv => rhs; rw [← List.take_append_drop i rs]
  rw [frs_append, List.length_append]
  omega
/-- bytes of which a beginning is there, the last one perhaps turned -/
def tornB (b : List UInt8) (k : Nat) (t : Bool) : List UInt8 := if t then (b.take k).set (k - 1) (b.getD (k - 1) 0 ^^^ 1) else b.take k
theorem tornB_length (b : List UInt8) (k : Nat) (t : Bool) (h : k ≤ b.length) : (tornB b k t).length = k := by
  unfold tornB
  split <;> simp <;> omega
theorem xor1_ne (x : UInt8) : x ^^^ 1 ≠ x := by
  intro h
  have h1 : x ^^^ (x ^^^ 1) = x ^^^ x := by rw [h]
  rw [← UInt8.xor_assoc, UInt8.xor_self, UInt8.zero_xor] at h1
  exact absurd h1 (by decide)
theorem tornB_take {b : List UInt8} {k j : Nat} {t : Bool} (hj : j < k) : (tornB b k t).take j = b.take j := by
  unfold tornB
  split
  · rw [List.take_set_of_le (by omega), List.take_take, Nat.min_eq_left (by omega)]
  · rw [List.take_take, Nat.min_eq_left (by omega)]
theorem torn_first {r : List UInt8} (h : Okr r) {k : Nat} {t : Bool} (hk : k ≤ 40 + r.length) (ht : t = true ∨ k < 40 + r.length) (x : List UInt8) : fstL (tornB (frm r ++ x) k t) = none := by
  obtain ⟨h1, h2⟩ := h
  have hfl := frm_length r
  have hl : (tornB (frm r ++ x) k t).length = k := tornB_length _ _ _ (by rw [List.length_append]; omega)
  unfold fstL
  by_cases hk40 : k ≤ 40
  · rw [if_pos (by omega)]
  · have hn : num4 (tornB (frm r ++ x) k t) = r.length := num4_of_take (by omega) (by rw [tornB_take (by omega), List.take_append_of_le_length (by omega), frm_take4])
    rw [if_neg (by omega), hn, hl]
    by_cases hk2 : k < 40 + r.length
    · rw [if_pos (by omega)]
    · obtain rfl : k = 40 + r.length := by omega
      rw [if_neg (by omega), if_neg]
      intro he
      have ht : t = true := by rcases ht with h | h; exact h; omega
      subst ht
      have hT : tornB (frm r ++ x) (40 + r.length) true = (frm r).set (40 + r.length - 1) ((frm r).getD (40 + r.length - 1) 0 ^^^ 1) := by
        unfold tornB
        rw [if_pos rfl, List.take_append_of_le_length (by omega), List.take_of_length_le (by omega)]
        congr 1
        rw [List.getD_eq_getElem?_getD, List.getD_eq_getElem?_getD, List.getElem?_append_left (by omega)]
      -- the record with its last byte turned
      obtain ⟨p, y, hr⟩ : ∃ p y, r = p ++ [y] := ⟨r.dropLast, r.getLast (by intro e; rw [e] at h1; simp at h1), (List.dropLast_concat_getLast _).symm⟩
      have hpl : r.length = p.length + 1 := by rw [hr]; simp
      have hF : frm r = (putl r.length 4 ++ putl (Pcrc.crc r).toNat 4 ++ Psha.sha r ++ p) ++ [y] := by
        conv => lhs; unfold frm
        conv => lhs; rw [hr]
        simp only [← hr, List.append_assoc]
      have hPL : (putl r.length 4 ++ putl (Pcrc.crc r).toNat 4 ++ Psha.sha r ++ p).length = 40 + r.length - 1 := by
        simp [putl_length, Psha.sha_length]; omega
      have hy : (frm r).getD (40 + r.length - 1) 0 = y := by
        rw [hF, ← hPL, List.getD_eq_getElem?_getD, List.getElem?_append_right (Nat.le_refl _)]
        simp
      have hS : tornB (frm r ++ x) (40 + r.length) true = (putl r.length 4 ++ putl (Pcrc.crc r).toNat 4 ++ Psha.sha r ++ p) ++ [y ^^^ 1] := by
        rw [hT, hy, hF, ← hPL, List.set_append_right _ _ (Nat.le_refl _)]
        simp
      rw [hS] at he
      have hD : (List.drop 40 (putl r.length 4 ++ putl (Pcrc.crc r).toNat 4 ++ Psha.sha r ++ p ++ [y ^^^ 1])).take r.length = p ++ [y ^^^ 1] := by
        rw [show putl r.length 4 ++ putl (Pcrc.crc r).toNat 4 ++ Psha.sha r ++ p ++ [y ^^^ 1] = (putl r.length 4 ++ putl (Pcrc.crc r).toNat 4 ++ Psha.sha r) ++ (p ++ [y ^^^ 1]) by simp, List.drop_append_of_le_length (by simp [putl_length, Psha.sha_length]), List.drop_of_length_le (by simp [putl_length, Psha.sha_length]), List.nil_append, List.take_of_length_le (by simp; omega)]
      rw [hD] at he
      have h8 := congrArg (List.take 8) he
      rw [frm_take8, List.take_take, Nat.min_eq_left (by omega), show putl r.length 4 ++ putl (Pcrc.crc r).toNat 4 ++ Psha.sha r ++ p ++ [y ^^^ 1] = (putl r.length 4 ++ putl (Pcrc.crc r).toNat 4) ++ (Psha.sha r ++ p ++ [y ^^^ 1]) by simp, List.take_append_of_le_length (by simp [putl_length]), List.take_of_length_le (by simp [putl_length])] at h8
      have hc := (List.append_inj h8 (by rw [putl_length, putl_length])).2
      have hc2 := putl4_inj (by have := (Pcrc.crc (p ++ [y ^^^ 1])).isLt; omega) (by have := (Pcrc.crc r).isLt; omega) hc
      have hc3 : Pcrc.crc (p ++ [y ^^^ 1]) = Pcrc.crc (p ++ [y]) := by rw [← hr]; exact BitVec.eq_of_toNat_eq hc2
      exact Pcrc.last_turned p (xor1_ne y) hc3
/-- what is told of torn frames: a beginning, with all that is whole -/
theorem torn_read : ∀ (rs : List (List UInt8)), (∀ r ∈ rs, Okr r) → ∀ (k : Nat) (t : Bool), k ≤ (frs rs).length → (t = true → 1 ≤ k) →
    ∃ j, j ≤ rs.length ∧ rdL (tornB (frs rs) k t) = rs.take j ∧ ∀ i, i ≤ rs.length → (frs (rs.take i)).length ≤ (if t then k - 1 else k) → i ≤ j
  | [], _, k, t, hk, ht => by
    have hk0 : k = 0 := by simpa [frs] using hk
    subst hk0
    refine ⟨0, Nat.le_refl _, ?_, fun i hi _ => hi⟩
    cases t with
    | true => exact absurd (ht rfl) (by omega)
    | false => rfl
  | r :: rs, h, k, t, hk, ht => by
    have hr := h r List.mem_cons_self
    have hfl := frm_length r
    rw [frs_cons, List.length_append] at hk
    by_cases hc : k ≤ 40 + r.length ∧ (t = true ∨ k < 40 + r.length)
    · refine ⟨0, Nat.zero_le _, ?_, fun i hi hle => ?_⟩
      · rw [frs_cons, rdL_none (torn_first hr hc.1 hc.2 _)]
        rfl
      · cases i with
        | zero => exact Nat.le_refl _
        | succ i =>
          rw [List.take_succ_cons, frs_cons, List.length_append] at hle
          split at hle
          · have := ht (by assumption)
            omega
          · rename_i hf
            rcases hc.2 with h | h
            · exact absurd h hf
            · omega
    · obtain ⟨k', rfl⟩ : ∃ k', k = 40 + r.length + k' := ⟨k - (40 + r.length), by
        rcases Nat.lt_or_ge k (40 + r.length) with h | h
        · exact absurd ⟨by omega, .inr h⟩ hc
        · omega⟩
      have ht' : t = true → 1 ≤ k' := fun e => by
        rcases Nat.eq_zero_or_pos k' with h0 | h0
        · exact absurd ⟨by omega, .inl e⟩ hc
        · exact h0
      obtain ⟨j, h1, h2, h3⟩ := torn_read rs (fun y hy => h y (List.mem_cons_of_mem _ hy)) k' t (by omega) ht'
      have hT : tornB (frs (r :: rs)) (40 + r.length + k') t = frm r ++ tornB (frs rs) k' t := by
        rw [frs_cons]
        have hta : (frm r ++ frs rs).take (40 + r.length + k') = frm r ++ (frs rs).take k' := by
          rw [List.take_append, List.take_of_length_le (by omega), hfl]
          congr 2
          omega
        unfold tornB
        cases t with
        | false => simpa using hta
        | true =>
          have h0 := ht' rfl
          simp only [if_true]
          rw [hta, List.set_append_right _ _ (by omega), hfl]
          have e1 : 40 + r.length + k' - 1 - (40 + r.length) = k' - 1 := by omega
          rw [e1, List.getD_eq_getElem?_getD, List.getD_eq_getElem?_getD, List.getElem?_append_right (by omega), hfl, e1]
      refine ⟨j + 1, by simpa using h1, ?_, fun i hi hle => ?_⟩
      · rw [hT, rdL_frm hr, h2, List.take_succ_cons]
      · cases i with
        | zero => exact Nat.zero_le _
        | succ i =>
          rw [List.take_succ_cons, frs_cons, List.length_append] at hle
          have := h3 i (by simpa using hi) (by
            cases t with
            | false => simp only [Bool.false_eq_true, if_false] at hle ⊢; omega
            | true =>
              have := ht' rfl
              simp only [if_true] at hle ⊢
              omega)
          omega
end Go.Proofs.YtmlfeljhojmbbaaGreatDoor

namespace Go.Proofs.YtmlfeljhojmbbaaGreatDoor
open Go.RowKit Go.Maps Go.Sort
set_option linter.unusedSimpArgs false
set_option linter.unusedVariables false
set_option maxRecDepth 100000

theorem wraps_i63 (n : Int) (h0 : 0 ≤ n) (h1 : n < 2 ^ 63) : IntKind.i64.wrap n = n := by
  have e : n % 2 ^ 64 = n := Int.emod_eq_of_lt h0 (by omega)
  simp only [IntKind.wrap, IntKind.bits, IntKind.signed, e]
  rw [if_neg]
  simp
  omega
theorem or_i64 (i : Nat) (x y : Int) (hx₀ : 0 ≤ x) (hx : x % 2 ^ i = 0) (hx₁ : x < 2 ^ 63) (hy₀ : 0 ≤ y) (hy : y < 2 ^ i) (hy₁ : y < 2 ^ 63) : bits .or .i64 x y = x + y :=
  bits_join .i64 63 (by decide) wraps_i63 i x y hx₀ hx hx₁ hy₀ hy hy₁
theorem big4_walk (a b c d : UInt8) : bits .or .i64 (bits .or .i64 (bits .or .i64 ((a.toNat : Int) * (16777216 : Int)) ((b.toNat : Int) * (65536 : Int))) ((c.toNat : Int) * (256 : Int))) (d.toNat : Int) = ((a.toNat * 16777216 + b.toNat * 65536 + c.toNat * 256 + d.toNat : Nat) : Int) := by
  have ha := a.toNat_lt
  have hb := b.toNat_lt
  have hc := c.toNat_lt
  have hd := d.toNat_lt
  rw [or_i64 24 ((a.toNat : Int) * (16777216 : Int)) ((b.toNat : Int) * (65536 : Int)) (by omega) (by omega) (by omega) (by omega) (by omega) (by omega), or_i64 16 _ ((c.toNat : Int) * (256 : Int)) (by omega) (by omega) (by omega) (by omega) (by omega) (by omega), or_i64 8 _ (d.toNat : Int) (by omega) (by omega) (by omega) (by omega) (by omega) (by omega)]
  omega
theorem rdB_piece {w : World} {a : Addr} {l : List UInt8} (h : RdB w (some a) l) (k n : Nat) : RdB w (some (a.add k)) ((l.drop k).take n) := by
  intro j hj
  rw [List.length_take, List.length_drop] at hj
  refine ⟨_, rfl, ?_⟩
  rw [h.at2 (by omega)]
  congr 3
  rw [List.getD_eq_getElem?_getD, List.getD_eq_getElem?_getD, List.getElem?_take_of_lt (by omega), List.getElem?_drop]
set_option maxHeartbeats 4000000 in
theorem first_calls (A : Option Addr) (c N : Nat) (b : List UInt8) (w : World) (hr : RdB w A b) (hN : b.length = N) (hc : N ≤ c) (hm : N ≤ 1048576)
    (hk : Rd w (some ⟨1, 0, none⟩) (wds Psha.ks)) (hbg : Rd w (some ⟨0, 0, none⟩) (wds Psha.iv.list)) :
    Calls Tryz.prog 83 #[.slice A N c] w fun e w' => Below w.heap.size w w' ∧ ((fstL b = none ∧ e = .returned (.slice none 0 0)) ∨
      ∃ r g c', fstL b = some r ∧ e = .returned (.slice (some ⟨g, 0, none⟩) r.length c') ∧ Own w' 5 1 (.slice (some ⟨g, 0, none⟩) r.length c') r.length (bys r) ∧ w.heap.size ≤ g) := by
  by_cases h40 : N ≤ 40
  · have hF : fstL b = none := by unfold fstL; rw [if_pos (by omega)]
    go_enter Tryz.func83, Tryz.ntmps83
    go_wp2_with fail
    go_ret
    exact ⟨Below.refl _ _, .inl ⟨hF, rfl⟩⟩
  · obtain ⟨a, rfl, _⟩ := hr 0 (by omega)
    have c0 : w.cell? a = some (.int .u8 ((b.getD 0 0).toNat : Int)) := hr.at_ (k := 0) (by omega)
    have c1 : w.cell? ⟨a.block, a.off + 1, none⟩ = some (.int .u8 ((b.getD 1 0).toNat : Int)) := hr.at_ (k := 1) (by omega)
    have c2 : w.cell? ⟨a.block, a.off + 2, none⟩ = some (.int .u8 ((b.getD 2 0).toNat : Int)) := hr.at_ (k := 2) (by omega)
    have c3 : w.cell? ⟨a.block, a.off + 3, none⟩ = some (.int .u8 ((b.getD 3 0).toNat : Int)) := hr.at_ (k := 3) (by omega)
    have hnum : num4 b = (b.getD 0 0).toNat * 16777216 + (b.getD 1 0).toNat * 65536 + (b.getD 2 0).toNat * 256 + (b.getD 3 0).toNat := rfl
    generalize b.getD 0 0 = x0 at c0 hnum
    generalize b.getD 1 0 = x1 at c1 hnum
    generalize b.getD 2 0 = x2 at c2 hnum
    generalize b.getD 3 0 = x3 at c3 hnum
    have hor := big4_walk x0 x1 x2 x3
    rw [← hnum] at hor
    have u0 := x0.toNat_lt
    have u1 := x1.toNat_lt
    have u2 := x2.toNat_lt
    have u3 := x3.toNat_lt
    obtain ⟨M, hM⟩ : ∃ M, M = num4 b := ⟨_, rfl⟩
    rw [← hM] at hor hnum
    have hsum : (x0.toNat : Int) * 16777216 + (x1.toNat : Int) * 65536 + (x2.toNat : Int) * 256 + (x3.toNat : Int) = (M : Int) := by omega
    have HM := Shut.mk hM
    have HR := Shut.mk hr
    have HN := Shut.mk hN
    have HK := Shut.mk hk
    have HG := Shut.mk hbg
    have HOR := Shut.mk hor
    clear hr hN hk hbg hM hor
    have hb0 : Below w.heap.size w w.drew := (Below.refl _ w).drew
    have HB0 := Shut.mk hb0
    clear hb0
    by_cases hbad : M < 1 ∨ 4000 < M ∨ N < 40 + M
    · have HF : Shut (fstL b = none) := ⟨by unfold fstL; rw [if_neg (by rw [HN.out]; omega), if_pos (by rw [← HM.out, HN.out]; omega)]⟩
      go_enter Tryz.func83, Tryz.ntmps83
      go_wp2_with fail
      go_region
      rw [HOR.out]
      clear hsum hnum u0 u1 u2 u3
      by_cases hb1 : M < 1
      · go_wp2_with fail
        go_ret
        exact ⟨HB0.out, .inl ⟨HF.out, rfl⟩⟩
      · by_cases hb2 : 4000 < M
        · go_wp2_with fail
          go_ret
          exact ⟨HB0.out, .inl ⟨HF.out, rfl⟩⟩
        · have hb3 : N < 40 + M := by omega
          go_wp2_with fail
          go_ret
          exact ⟨HB0.out, .inl ⟨HF.out, rfl⟩⟩
    · have hg1 : 1 ≤ M := by omega
      have hg2 : M ≤ 4000 := by omega
      have hg3 : 40 + M ≤ N := by omega
      clear hbad
      have HL : Shut (((b.drop 40).take M).length = M) := ⟨by rw [List.length_take, List.length_drop, HN.out]; omega⟩
      have HP := Shut.mk (RdB.keep (rdB_piece HR.out 40 M) HB0.out)
      have HT := Shut.mk (RdB.keep (RdB.take HR.out (40 + M)) HB0.out)
      have HTL : Shut ((b.take (40 + M)).length = 40 + M) := ⟨by rw [List.length_take, HN.out]; omega⟩
      have HFE : Shut (fstL b = if frm ((b.drop 40).take M) = b.take (40 + M) then some ((b.drop 40).take M) else none) := ⟨by
        unfold fstL
        rw [if_neg (by rw [HN.out]; omega), ← HM.out, if_neg (by rw [HN.out]; omega)]⟩
      generalize (b.drop 40).take M = r at HL HP HFE
      generalize b.take (40 + M) = bt at HT HTL HFE
      go_enter Tryz.func83, Tryz.ntmps83
      go_wp2_with fail
      go_region
      rw [HOR.out]
      clear hsum hnum u0 u1 u2 u3 c0 c1 c2 c3
      go_wp2_with fail
      refine (frame_calls _ M M r _ HP.out HL.out hg1 hg2 (HK.out.keep HB0.out) (HG.out.keep HB0.out)).mono ?_
      rintro e w2 ⟨v2, rfl, ho2, hb2, hn2⟩
      obtain ⟨A2, c2, rfl, _, hac2, _⟩ := ho2.form
      have HB2 := Shut.mk (HB0.out.trans (hb2.mono HB0.out.size))
      have HFB := Shut.mk (rdb_own _ ho2)
      have HFL := Shut.mk (show (frm r).length = 40 + M by rw [frm_length, HL.out])
      have HT2 := Shut.mk (HT.out.keep hb2)
      have HP2 := Shut.mk (HP.out.keep hb2)
      clear ho2 hb2
      go_wp2_with fail
      refine (equal_calls A2 (some a) (40 + M) c2 (40 + M) c (frm r) bt w2 HFB.out HT2.out HFL.out HTL.out).mono ?_
      rintro e w' ⟨rfl, rfl⟩
      by_cases hE : frm r = bt
      · have hE' : (frm r == bt) = true := by rw [beq_iff_eq]; exact hE
        rw [hE']
        have HF := Shut.mk (HFE.out.trans (if_pos hE))
        clear hE hE'
        go_wp2_with fail
        refine (clone_n _ M M r w2 HP2.out (by rw [HL.out]; unfold reach; omega) HL.out).mono ?_
        rintro e w3 ⟨v3, rfl, ho3, hb3, hn3⟩
        rw [HL.out] at ho3
        obtain ⟨g3, c3, rfl, _⟩ := ho3.head (by omega)
        go_wp2_with fail
        go_ret
        refine ⟨HB2.out.trans (hb3.mono HB2.out.size), .inr ⟨r, g3, c3, HF.out, ?_, ?_, Nat.le_trans HB2.out.size (hn3 g3 rfl)⟩⟩
        · rw [HL.out]
          rfl
        · rw [HL.out]
          exact ho3
      · have hE' : (frm r == bt) = false := by rw [beq_eq_false_iff_ne]; exact hE
        rw [hE']
        have HF := Shut.mk (HFE.out.trans (if_neg hE))
        clear hE hE'
        go_wp2_with fail
        go_ret
        exact ⟨HB2.out, .inl ⟨HF.out, rfl⟩⟩
end Go.Proofs.YtmlfeljhojmbbaaGreatDoor
