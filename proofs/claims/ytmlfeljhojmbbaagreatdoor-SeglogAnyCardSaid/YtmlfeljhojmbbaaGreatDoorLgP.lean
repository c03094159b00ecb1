/- The log: its tables, its names of segments, and its memory. The log's plain law: files by their names; frames one behind the other, whole and torn. Walk: the record at the beginning of bytes. Walks: the log's small calls: note, none, last, has. Walks: the log's has and Segments. The disk's calls by way of the log; the walk of write (printed by wip/genlg4.py). The log's plain law: a disk that writes whole or stopped, call by call; a manifest's write. Walk: the segments of a manifest. Walk: the segments of any bytes that may be a manifest (printed by wip/genpar.py). Walk: the segments of any bytes: what parse answers. Walk: the log's remove. The log's plain law: syncs in a row; rows of records; a file's reading by way of the log. Walk: the log's scan, where all segments but the last are whole, on a disk that does every change (printed by wip/genlg9.py). The log's plain law: what Open leaves of a disk. Walks: Open of an empty disk, and of a disk that has a log (printed by wip/genlg11.py). The log's plain law: a log and its records, call by call. Walk: Append of a record that may be (printed by wip/genlg13.py). Walks: the log's Bytes and Sync. The log as the laws use it: a log all of whose blocks are new; Open anew. Walks: SameTexts of two rows of records. Walk: the laws' tails; the disk's Crash in words. The log's plain law: a crash, and Open of what it left. The log as the laws use it: tails, a crash, Open behind it. The log as the laws use it: a fuse; a crash seen by one that knows the log's blocks; a row of records beside a log. Walks: ContainsFunc of rows of records that may be. The log's memory once more: what turns (M) and the block of its numbers (R), which no call turns (printed by wip/genlm.py). Walk: the log's Replace; a crash of what it leaves. The log as the laws use it: a log with two rows of records beside it. The log as the laws use it: a dead log; a disk of which a crash leaves what is said; subrows. The log's plain law: what scan and Open do on any disk, as functions. What stands while scan goes on, on any disk. -/
import Derived.Test.YtmlfeljhojmbbaaGreatDoorDs
import Derived.Test.YtmlfeljhojmbbaaGreatDoorList
import Derived.Test.YtmlfeljhojmbbaaGreatDoorFrm
import Derived.Test.YtmlfeljhojmbbaaGreatDoorSh07
import Derived.Test.YtmlfeljhojmbbaaGreatDoorChunk
import Derived.BigQuiet
import Derived.Deep.RegionHeld3
import Derived.Test.YtmlfeljhojmbbaaGreatDoorMake
import Derived.Test.YtmlfeljhojmbbaaGreatDoorSum
namespace Go.Proofs.YtmlfeljhojmbbaaGreatDoor
open Go.RowKit Go.Maps Go.Sort
set_option linter.unusedSimpArgs false
set_option linter.unusedVariables false
set_option maxRecDepth 100000

/-- the tables that a log reads, in blocks below Z -/
structure Tb (w : World) (Z : Nat) : Prop where
  k : Rd w (some ⟨1, 0, none⟩) (wds Psha.ks)
  b : Rd w (some ⟨0, 0, none⟩) (wds Psha.iv.list)
  p : Lib.TabIs Tryz.prog w "internal/strconv.uint64pow10" .u64 Lib.pow10Tab
  gk : 1 < Z
  gb : 0 < Z
  gp : 2 < Z
theorem rd_belowZ {w w' : World} {Z : Nat} {a : Addr} {xs : List Value} (h : Rd w (some a) xs) (hb : Below Z w w') (hz : a.block < Z) : Rd w' (some a) xs := by
  intro hne
  obtain ⟨ad, e, hc⟩ := h hne
  injection e with e
  subst e
  exact ⟨a, rfl, fun j u hu => by rw [hb.cell (by rw [block_of_add]; exact hz)]; exact hc j u hu⟩
theorem Tb.below {w w' : World} {Z : Nat} (h : Tb w Z) (hb : Below Z w w') : Tb w' Z := by
  refine ⟨rd_belowZ h.k hb h.gk, rd_belowZ h.b hb h.gb, ?_, h.gk, h.gb, h.gp⟩
  have := h.p
  unfold Lib.TabIs World.var? at *
  rw [show (Tryz.prog).globalNamed "internal/strconv.uint64pow10" = some 2 by kernel_rfl] at *
  simp only [Option.bind_some] at *
  rw [hb.block _ h.gp]
  exact this
/-- a segment's name -/
def seg (n : Nat) : List UInt8 := 115 :: (List.replicate (8 - Lib.nDigits n) 48 ++ Lib.decDigits n)
def segS (n : Nat) : ByteArray := ⟨(seg n).toArray⟩
theorem segS_list (n : Nat) : (segS n).data.toList = seg n := by simp [segS]
theorem nDigits_pow : ∀ (k n : Nat), n < 10 ^ (k + 1) → Lib.nDigits n ≤ k + 1
  | 0, n, h => by
    rw [Lib.nDigits_small (by simpa using h)]
    omega
  | k + 1, n, h => by
    by_cases h1 : n < 10
    · rw [Lib.nDigits_small h1]
      omega
    · rw [Lib.nDigits_big h1]
      have := nDigits_pow k (n / 10) (by rw [Nat.pow_succ] at h; omega)
      omega
theorem nDigits_le {n : Nat} (h : n ≤ 99999999) : Lib.nDigits n ≤ 8 := nDigits_pow 7 n (by omega)
theorem seg_length {n : Nat} (h : n ≤ 99999999) : (seg n).length = 9 := by
  have := nDigits_le h
  simp [seg, Lib.decDigits_length]
  omega
theorem below_grow (w : World) (k : Nat) (os : Array Obj) : Below w.heap.size w (grow (w.drewN k) os) := by
  refine ⟨rfl, by simp [grow], rfl, by simp [grow], fun b hb => ?_⟩
  simp [grow, Array.getElem?_append, hb]
theorem file_calls (n : Nat) (w : World) (h1 : n ≤ 99999999) (htab : Lib.TabIs Tryz.prog w "internal/strconv.uint64pow10" .u64 Lib.pow10Tab) :
    Calls Tryz.prog 49 #[.int .i64 (n : Int)] w fun e w' => e = .returned (.string (segS n)) ∧ Below w.heap.size w w' := by
  have hn := nDigits_le h1
  have hlen : (ByteArray.mk (Lib.itoa (n : Int)).toArray).size = Lib.nDigits n := by
    rw [Lib.size_eq]
    rw [Lib.itoa, if_neg (by omega)]
    simp [Lib.decDigits_length]
  go_enter Tryz.func49, Tryz.ntmps49
  go_wp2_with fail
  refine (sh_Itoa (n : Int) (by omega) (by omega) w htab).mono ?_
  rintro e w' ⟨rfl, k, os, rfl⟩
  go_wp2_with fail
  go_ret
  refine ⟨congrArg (fun x => Ending.returned (Value.string x)) (AnyPlain.small_ba _ _ ?_), below_grow _ _ _⟩
  rw [ByteArray.data_append, ByteArray.data_append, ByteArray.data_extract, Array.toList_append, Array.toList_append, Array.toList_extract]
  rw [Lib.itoa, if_neg (by omega)]
  show [115] ++ List.extract (List.replicate 8 48) 0 (8 - Lib.nDigits n) ++ Lib.decDigits n = seg n
  rw [List.extract_eq_take_drop, List.drop_zero, Nat.sub_zero, List.take_replicate, Nat.min_eq_left (by omega)]
  rfl
/-- the names of a disk's files, rising -/
def lsD (d : Ds) : List (List UInt8) := (d.S.map (·.1)).mergeSort (fun a b => decide (a ≤ b))
theorem dd_keys {w : World} {gd : Nat} {F : List Nat} {d : Ds} (h : DD w gd F d) : d.S.Pairwise fun a b => a.1 ≠ b.1 := by
  obtain ⟨gm, es, hD, hE, hF⟩ := h
  rw [← hE]
  unfold fls
  rw [List.pairwise_map]
  exact hD.keys
theorem lsD_mem {d : Ds} {a : List UInt8} : a ∈ lsD d ↔ look d.S a ≠ none := by
  unfold lsD
  rw [List.mem_mergeSort, List.mem_map]
  constructor
  · rintro ⟨x, hx, rfl⟩ e
    unfold look at e
    rw [Option.map_eq_none_iff, List.find?_eq_none] at e
    exact e x hx (by simp)
  · intro h
    cases hl : look d.S a with
    | none => exact absurd hl h
    | some p =>
      unfold look at hl
      cases hf : d.S.find? (fun x => x.1 == a) with
      | none => rw [hf] at hl; cases hl
      | some x =>
        have h1 := List.find?_some hf
        exact ⟨x, List.mem_of_find?_eq_some hf, by simpa using h1⟩
theorem lsD_rising {d : Ds} (h : d.S.Pairwise fun a b => a.1 ≠ b.1) : (lsD d).Pairwise (· < ·) := by
  have h1 : (lsD d).Pairwise (fun a b => a ≤ b) := by
    have := List.pairwise_mergeSort (le := fun x y : List UInt8 => decide (x ≤ y)) (fun a b c h1 h2 => by simp only [decide_eq_true_eq] at *; exact List.le_trans h1 h2) (fun a b => by simp only [Bool.or_eq_true, decide_eq_true_eq]; exact List.le_total a b) (d.S.map (·.1))
    exact this.imp fun h => by simpa using h
  have h2 : (lsD d).Pairwise (· ≠ ·) := by
    have : (d.S.map (·.1)).Pairwise (· ≠ ·) := by rw [List.pairwise_map]; exact h
    exact (List.mergeSort_perm _ _).symm.pairwise this (fun h => h.symm)
  exact (h1.and h2).imp fun ⟨h1, h2⟩ => by
    rcases List.le_iff_lt_or_eq.1 h1 with h | h
    · exact h
    · exact absurd h h2
theorem dd_ls {w : World} {gd : Nat} {F : List Nat} {d : Ds} (h : DD w gd F d) (hn : d.n < 1000000000) :
    Calls Tryz.prog 14 #[gp gd] w fun e w' => ∃ v, e = .returned v ∧ Own w' 9 1 v (lsD d).length ((lsD d).map Proofs.encStr) ∧ Below w.heap.size w w' ∧ ∀ g, v.ownBlock = some g → w.heap.size ≤ g := by
  have hk := dd_keys h
  obtain ⟨gm, es, hD, hE, hF⟩ := h
  refine list_calls hD hn (lsD_rising hk) (fun a => ?_)
  have h1 : look (fls es) a = (lookE es a).map fun e => (e.b, e.syn) := look_map es a
  rw [lsD_mem, ← hE, h1]
  cases lookE es a <;> simp
/-- numbers in a row -/
def its (l : List Nat) : List Value := l.map fun n : Nat => .int .i64 (n : Int)
/-- a slice's room, and that it begins a block -/
def RowOk (A : Option Addr) (n c : Nat) : Prop := n ≤ c ∧ ∀ a, A = some a → a = ⟨a.block, 0, none⟩
/-- a log: its block, its slice of numbers -/
structure LgAt (w : World) (gl gd : Nat) (A : Option Addr) (c : Nat) (l : List Nat) (dead : Bool) : Prop where
  blk : Blk w gl 77 #[gp gd, .slice A l.length c, .bool dead]
  rd : Rd w A (its l)
  le : RowOk A l.length c
/-- a log and its disk: H holds all blocks that they have; the tables lie below Z -/
structure LD (w : World) (gl gd Z : Nat) (H : List Nat) (d : Ds) (l : List Nat) (dead : Bool) : Prop where
  go : ∃ F A c, DD w gd F d ∧ LgAt w gl gd A c l dead ∧ (∀ x ∈ F, x ∈ H ∧ x ≠ gl) ∧ ∀ a, A = some a → l ≠ [] → a.block ∉ F ∧ a.block ≠ gl ∧ a.block ∈ H
  gl : gl ∈ H
  z : ∀ x ∈ H, Z ≤ x
  zs : Z ≤ w.heap.size
  tb : Tb w Z
def LStp (w w' : World) (gl gd Z : Nat) (H : List Nat) (d : Ds) (l : List Nat) (dead : Bool) : Prop :=
  ∃ H', LD w' gl gd Z H' d l dead ∧ Kb w w' H ∧ ∀ x ∈ H', x ∈ H ∨ w.heap.size ≤ x
section
variable {w w' : World} {gl gd Z : Nat} {H : List Nat} {d : Ds} {l : List Nat} {dead : Bool}
theorem LD.keep (h : LD w gl gd Z H d l dead) {L : List Nat} (hk : Kb w w' L) (hL : ∀ x ∈ L, x ∉ H ∧ Z ≤ x) : LD w' gl gd Z H d l dead := by
  obtain ⟨⟨F, A, c, h1, h2, h3, h4⟩, h5, h6, h7, h8⟩ := h
  refine ⟨⟨F, A, c, Dsk.kept h1 hk (fun x hx hxL => (hL x hxL).1 (h3 x hx).1), ⟨hk.blk h2.blk (fun hx => (hL _ hx).1 h5), ?_, h2.le⟩, h3, h4⟩, h5, h6, Nat.le_trans h7 hk.size, h8.below (hk.below (Below.refl _ _) (fun x hx => (hL x hx).2) h7)⟩
  intro hne
  obtain ⟨a, rfl, hc⟩ := h2.rd hne
  have hl : l ≠ [] := fun e => hne (by rw [e]; rfl)
  obtain ⟨_, _, ha⟩ := h4 a rfl hl
  refine ⟨a, rfl, fun j u hu => ?_⟩
  have h9 := hc j u hu
  have hlt := World.block_lt_of_cell? w _ h9
  rw [← h9]
  exact World.cell?_of_block (w := w) (hk.block _ hlt (fun hx => by rw [block_of_add] at hx; exact (hL _ hx).1 ha))
theorem LD.quiet (h : LD w gl gd Z H d l dead) (hb : Below w.heap.size w w') : LD w' gl gd Z H d l dead := h.keep (Kb.of_below hb []) (fun x hx => by cases hx)
theorem LStp.same (h : LD w gl gd Z H d l dead) : LStp w w gl gd Z H d l dead := ⟨H, h, Kb.refl _ _, fun x hx => .inl hx⟩
theorem LStp.trans {w'' : World} {H' : List Nat} {d'' : Ds} {l'' : List Nat} {dead'' : Bool} (h2 : Kb w w' H) (h3 : ∀ x ∈ H', x ∈ H ∨ w.heap.size ≤ x) (h : LStp w' w'' gl gd Z H' d'' l'' dead'') : LStp w w'' gl gd Z H d'' l'' dead'' := by
  obtain ⟨F2, a1, a2, a3⟩ := h
  exact ⟨F2, a1, h2.trans a2 h3, fun x hx => (a3 x hx).elim (h3 x) fun h => .inr (Nat.le_trans h2.size h)⟩
/-- a step of the disk alone -/
theorem LD.disk (h : LD w gl gd Z H d l dead) : ∃ F, DD w gd F d ∧ ∀ {w' : World} {d' : Ds}, DStp w w' gd F d' → LStp w w' gl gd Z H d' l dead := by
  obtain ⟨⟨F, A, c, h1, h2, h3, h4⟩, h5, h6, h7, h8⟩ := h
  refine ⟨F, h1, ?_⟩
  rintro w' d' ⟨F', q1, q2, q3⟩
  have hgl : gl < w.heap.size := h2.blk.lt
  refine ⟨gl :: F' ++ H, ⟨⟨F', A, c, q1, ⟨q2.blk h2.blk (fun hx => (h3 _ hx).2 rfl), ?_, h2.le⟩, ?_, ?_⟩, ?_, ?_, Nat.le_trans h7 q2.size, h8.below (q2.below (Below.refl _ _) (fun x hx => h6 x (h3 x hx).1) h7)⟩, q2.mono fun x hx => (h3 x hx).1, ?_⟩
  · intro hne
    obtain ⟨a, rfl, hc⟩ := h2.rd hne
    have hl : l ≠ [] := fun e => hne (by rw [e]; rfl)
    obtain ⟨ha, _, _⟩ := h4 a rfl hl
    refine ⟨a, rfl, fun j u hu => ?_⟩
    have h9 := hc j u hu
    have hlt := World.block_lt_of_cell? w _ h9
    rw [← h9]
    exact World.cell?_of_block (w := w) (q2.block _ hlt (fun hx => by rw [block_of_add] at hx; exact ha hx))
  · intro x hx
    refine ⟨by simp [hx], ?_⟩
    rcases q3 x hx with h | h
    · exact (h3 x h).2
    · omega
  · intro a ha hl
    obtain ⟨b1, b2, b3⟩ := h4 a ha hl
    refine ⟨fun hx => ?_, b2, by simp [b3]⟩
    rcases q3 _ hx with h | h
    · exact b1 h
    · have hne : its l ≠ [] := fun e => hl (by simpa [its] using e)
      obtain ⟨a', e', hc⟩ := h2.rd hne
      rw [ha] at e'
      injection e' with e'
      subst e'
      cases l with
      | nil => exact hl rfl
      | cons n l =>
        have h9 := World.block_lt_of_cell? w _ (hc 0 (.int .i64 (n : Int)) rfl)
        rw [block_of_add] at h9
        omega
  · simp
  · intro x hx
    simp only [List.cons_append, List.mem_cons, List.mem_append] at hx
    rcases hx with rfl | hx | hx
    · exact h6 _ h5
    · rcases q3 x hx with h | h
      · exact h6 x (h3 x h).1
      · omega
    · exact h6 x hx
  · intro x hx
    simp only [List.cons_append, List.mem_cons, List.mem_append] at hx
    rcases hx with rfl | hx | hx
    · exact .inl h5
    · rcases q3 x hx with h | h
      · exact .inl (h3 x h).1
      · exact .inr h
    · exact .inl hx
theorem rd_kept {A : Option Addr} {xs : List Value} {L : List Nat} (h : Rd w A xs) (hk : Kb w w' L) (hA : ∀ a, A = some a → xs ≠ [] → a.block ∉ L) : Rd w' A xs := by
  intro hne
  obtain ⟨a, rfl, hc⟩ := h hne
  refine ⟨a, rfl, fun j u hu => ?_⟩
  have h9 := hc j u hu
  have hlt := World.block_lt_of_cell? w _ h9
  rw [← h9]
  exact World.cell?_of_block (w := w) (hk.block _ hlt (fun hx => by rw [block_of_add] at hx; exact hA a rfl hne hx))
theorem its_ne {l : List Nat} (h : l ≠ []) : its l ≠ [] := fun e => h (by simpa [its] using e)
theorem ne_its {l : List Nat} (h : its l ≠ []) : l ≠ [] := fun e => h (by rw [e]; rfl)
def blkOf (A : Option Addr) : List Nat := (A.map (·.block)).toList
theorem LD.mono (h : LD w gl gd Z H d l dead) {H' : List Nat} (hH : ∀ x ∈ H, x ∈ H') (hz : ∀ x ∈ H', Z ≤ x) : LD w gl gd Z H' d l dead := by
  obtain ⟨⟨F, A, c, h1, h2, h3, h4⟩, h5, h6, h7, h8⟩ := h
  exact ⟨⟨F, A, c, h1, h2, fun x hx => ⟨hH x (h3 x hx).1, (h3 x hx).2⟩, fun a ha hl => ⟨(h4 a ha hl).1, (h4 a ha hl).2.1, hH _ (h4 a ha hl).2.2⟩⟩, hH _ h5, hz, h7, h8⟩
/-- the log's block alone turns -/
theorem LD.log (h : LD w gl gd Z H d l dead) : ∃ A c, Blk w gl 77 #[gp gd, .slice A l.length c, .bool dead] ∧ Rd w A (its l) ∧ (∀ a, A = some a → l ≠ [] → a.block ≠ gl ∧ a.block ∈ H) ∧
    (∀ dead', LStp w (w.setCell ⟨gl, 2, none⟩ (.bool dead')) gl gd Z H d l dead') ∧
    ∀ A' c' l', Rd w A' (its l') → RowOk A' l'.length c' → (∀ a, A' = some a → a.block ∉ H ∧ Z ≤ a.block) → LD (w.setCell ⟨gl, 1, none⟩ (.slice A' l'.length c')) gl gd Z (blkOf A' ++ H) d l' dead := by
  obtain ⟨⟨F, A, c, h1, h2, h3, h4⟩, h5, h6, h7, h8⟩ := h
  have hk : ∀ i u, Kb w (w.setCell ⟨gl, i, none⟩ u) [gl] := fun i u => (Kb.refl w _).setCell (by simp) _
  have hs : ∀ i u, Dsk (w.setCell ⟨gl, i, none⟩ u) gd F d.n d.S d.room d.short d.fuse := fun i u => Dsk.kept h1 (hk i u) (fun x hx hxL => (h3 x hx).2 (by simpa using hxL))
  have ht : ∀ i u, Tb (w.setCell ⟨gl, i, none⟩ u) Z := fun i u => h8.below ((hk i u).below (Below.refl _ _) (fun x hx => by
    obtain rfl : x = gl := by simpa using hx
    exact h6 _ h5) h7)
  refine ⟨A, c, h2.blk, h2.rd, fun a ha hl => (h4 a ha hl).2, fun dead' => ?_, fun A' c' l' hr hle hA => ?_⟩
  · refine ⟨H, ⟨⟨F, A, c, hs _ _, ⟨?_, rd_kept h2.rd (hk _ _) (fun a ha hl hx => (h4 a ha (ne_its hl)).2.1 (by simpa using hx)), h2.le⟩, h3, h4⟩, h5, h6, Nat.le_trans h7 (hk 2 _).size, ht _ _⟩, (hk _ _).mono (fun x hx => ?_), fun x hx => .inl hx⟩
    · exact h2.blk.set_ 2 (.bool dead')
    · obtain rfl : x = gl := by simpa using hx
      exact h5
  · have hm : ∀ a, A' = some a → a.block ∈ blkOf A' ++ H := fun a ha => by simp [blkOf, ha]
    refine ⟨⟨F, A', c', hs _ _, ⟨h2.blk.set_ 1 _, rd_kept hr (hk _ _) (fun a ha hl hx => (hA a ha).1 ?_), hle⟩, fun x hx => ⟨List.mem_append_right _ (h3 x hx).1, (h3 x hx).2⟩, fun a ha hl => ⟨fun hx => (hA a ha).1 (h3 _ hx).1, fun e => (hA a ha).1 (e ▸ h5), hm a ha⟩⟩, List.mem_append_right _ h5, fun x hx => ?_, Nat.le_trans h7 (hk 1 _).size, ht _ _⟩
    · rw [show a.block = gl by simpa using hx]
      exact h5
    · rcases List.mem_append.1 hx with h | h
      · cases A' with
        | none => cases h
        | some a =>
          obtain rfl : x = a.block := by simpa [blkOf] using h
          exact (hA a rfl).2
      · exact h6 x h
theorem LD.row (h : LD w gl gd Z H d l dead) : ∃ A c, w.cell? ⟨gl, 1, none⟩ = some (.slice A l.length c) ∧ Rd w A (its l) ∧ RowOk A l.length c ∧ gl < w.heap.size ∧ ∀ a, A = some a → l ≠ [] → a.block ≠ gl ∧ a.block ∈ H := by
  obtain ⟨⟨F, A, c, h1, h2, h3, h4⟩, h5, h6, h7, h8⟩ := h
  exact ⟨A, c, h2.blk.cell 1, h2.rd, h2.le, h2.blk.lt, fun a ha hl => (h4 a ha hl).2⟩
end
end Go.Proofs.YtmlfeljhojmbbaaGreatDoor

namespace Go.Proofs.YtmlfeljhojmbbaaGreatDoor
open Go.RowKit Go.Maps Go.Sort
set_option linter.unusedSimpArgs false
set_option linter.unusedVariables false
set_option maxRecDepth 100000

/-! ### files by their names -/
theorem look_nil (s : List UInt8) : look [] s = none := rfl
theorem look_cons (x : Fl) (S : List Fl) (s : List UInt8) : look (x :: S) s = if x.1 = s then some x.2 else look S s := by
  unfold look
  rw [List.find?_cons]
  by_cases h : x.1 = s
  · simp [h]
  · have h' : (x.1 == s) = false := by simpa using h
    rw [h', if_neg h]
theorem look_delF (S : List Fl) (k s : List UInt8) : look (delF S k) s = if s = k then none else look S s := by
  induction S with
  | nil => simp [delF, look_nil]
  | cons x r ih =>
    have hr : look (delF (x :: r) k) s = if x.1 = k then look (delF r k) s else look (x :: delF r k) s := by
      unfold delF
      rw [List.filter_cons]
      by_cases h : x.1 = k <;> simp [h]
    rw [hr, look_cons, look_cons, ih]
    by_cases h2 : s = k
    · subst h2
      by_cases h : x.1 = s <;> simp [h]
    · by_cases h : x.1 = k
      · simp [h, h2, Ne.symm h2]
      · simp [h, h2]
theorem look_mem {S : List Fl} {s : List UInt8} {p : List UInt8 × Nat} (h : look S s = some p) : (s, p) ∈ S := by
  unfold look at h
  cases hx : S.find? fun x => x.1 == s with
  | none => rw [hx] at h; cases h
  | some x =>
    rw [hx] at h
    have h1 : x.2 = p := by injection h
    have h2 : x.1 = s := by simpa using List.find?_some hx
    have h3 := List.mem_of_find?_eq_some hx
    rw [← h1, ← h2]
    exact h3
/-! ### how many bytes -/
theorem used_cons (x : Fl) (S : List Fl) : used (x :: S) = x.2.1.length + used S := by simp [used]
theorem used_setF_le {S : List Fl} {k b : List UInt8} {sy : Nat} (h : ∀ x ∈ S, x.1 = k → b.length ≤ x.2.1.length) : used (setF S k b sy) ≤ used S := by
  induction S with
  | nil => simp [setF]
  | cons x r ih =>
    have ih := ih fun y hy => h y (List.mem_cons_of_mem _ hy)
    show used ((if x.1 == k then (k, b, sy) else x) :: setF r k b sy) ≤ _
    rw [used_cons, used_cons]
    by_cases hx : x.1 = k
    · have := h x List.mem_cons_self hx
      simp only [hx, beq_self_eq_true, if_true]
      omega
    · simp only [beq_iff_eq, hx, if_false]
      omega
theorem used_delF_le (S : List Fl) (k : List UInt8) : used (delF S k) ≤ used S := by
  induction S with
  | nil => simp [delF]
  | cons x r ih =>
    unfold delF at *
    rw [List.filter_cons]
    split
    · rw [used_cons, used_cons]
      omega
    · rw [used_cons]
      omega
theorem used_delF_look {S : List Fl} {k b : List UInt8} {sy : Nat} (h : look S k = some (b, sy)) : used (delF S k) + b.length ≤ used S := by
  induction S with
  | nil => cases h
  | cons x r ih =>
    rw [look_cons] at h
    by_cases hx : x.1 = k
    · rw [if_pos hx] at h
      have h1 : x.2 = (b, sy) := by injection h
      have := used_delF_le r k
      unfold delF at *
      rw [List.filter_cons, used_cons, h1]
      simp only [hx, beq_self_eq_true, Bool.not_true, Bool.false_eq_true, if_false]
      omega
    · rw [if_neg hx] at h
      have := ih h
      unfold delF at *
      rw [List.filter_cons, used_cons]
      have hb : (x.1 == k) = false := by simpa using hx
      rw [hb]
      simp only [Bool.not_false, if_true]
      rw [used_cons]
      omega
theorem map_same7 (S : List Fl) (k b0 : List UInt8) (sy : Nat) (h : ∀ x ∈ S, x.1 ≠ k) : (S.map fun x => if x.1 == k then (k, b0, sy) else x) = S := by
  conv => rhs; rw [← List.map_id S]
  refine List.map_congr_left fun x hx => ?_
  simp [h x hx]
theorem used_addF7 {S : List Fl} (hp : S.Pairwise fun a b => a.1 ≠ b.1) (k b : List UInt8) : used (addF S k b) = used S + b.length := by
  unfold addF
  cases hx : look S k with
  | none => simp [used]
  | some v =>
    obtain ⟨b0, sy⟩ := v
    simp only
    unfold look at hx
    induction S with
    | nil => simp at hx
    | cons x r ih =>
      rw [List.pairwise_cons] at hp
      rw [List.find?_cons] at hx
      by_cases h : x.1 = k
      · have hr := map_same7 r k (b0 ++ b) sy fun y hy e => hp.1 y hy (h.trans e.symm)
        simp [h] at hx
        simp only [used, List.map_cons, List.sum_cons] at *
        rw [hr]
        simp [h, hx]
        omega
      · have h' : (x.1 == k) = false := by simpa using h
        rw [h'] at hx
        have := ih hp.2 hx
        simp only [used, List.map_cons, List.sum_cons] at *
        rw [this]
        simp [h]
        omega
theorem used_append7 (S T : List Fl) : used (S ++ T) = used S + used T := by simp [used]
theorem used_renF_le {S : List Fl} {a z b : List UInt8} {sy sy' : Nat} (h : look S a = some (b, sy)) : used (renF S a z b sy') ≤ used S := by
  unfold renF
  rw [used_append7, used_cons]
  have h1 := used_delF_look h
  have h2 := used_delF_le (delF S a) z
  have h3 : used ([] : List Fl) = 0 := rfl
  simp only [h3]
  omega
/-! ### rising rows with the same members -/
theorem rising_ext {a b : List (List UInt8)} (ha : a.Pairwise (· < ·)) (hb : b.Pairwise (· < ·)) (h : ∀ x, x ∈ a ↔ x ∈ b) : a = b := by
  induction a generalizing b with
  | nil =>
    cases b with
    | nil => rfl
    | cons y r => exact absurd ((h y).2 List.mem_cons_self) (by simp)
  | cons x r ih =>
    cases b with
    | nil => exact absurd ((h x).1 List.mem_cons_self) (by simp)
    | cons y s =>
      rw [List.pairwise_cons] at ha hb
      have hxy : x = y := by
        rcases List.mem_cons.1 ((h x).1 List.mem_cons_self) with e | e
        · exact e
        · rcases List.mem_cons.1 ((h y).2 List.mem_cons_self) with e2 | e2
          · exact e2.symm
          · exact absurd (List.lt_trans (ha.1 y e2) (hb.1 x e)) (List.lt_irrefl _)
      subst hxy
      rw [ih ha.2 hb.2 fun z => ?_]
      constructor
      · intro hz
        rcases List.mem_cons.1 ((h z).1 (List.mem_cons_of_mem _ hz)) with e | e
        · subst e
          exact absurd (ha.1 z hz) (List.lt_irrefl _)
        · exact e
      · intro hz
        rcases List.mem_cons.1 ((h z).2 (List.mem_cons_of_mem _ hz)) with e | e
        · subst e
          exact absurd (hb.1 z hz) (List.lt_irrefl _)
        · exact e
/-! ### segments' names -/
theorem decDigits_big {u : Nat} (h : ¬ u < 10) : Lib.decDigits u = Lib.decDigits (u / 10) ++ [UInt8.ofNat (48 + u % 10)] := by
  rw [Lib.decDigits, dif_neg h]
/-! ### frames -/
def Okr (r : List UInt8) : Prop := 1 ≤ r.length ∧ r.length ≤ 4000
def frs (rs : List (List UInt8)) : List UInt8 := rs.flatMap frm
theorem frs_cons (r : List UInt8) (rs : List (List UInt8)) : frs (r :: rs) = frm r ++ frs rs := rfl
theorem frs_append (a b : List (List UInt8)) : frs (a ++ b) = frs a ++ frs b := by simp [frs]
theorem frs_one (r : List UInt8) : frs [r] = frm r := by simp [frs]
def num4 (b : List UInt8) : Nat := (b.getD 0 0).toNat * 16777216 + (b.getD 1 0).toNat * 65536 + (b.getD 2 0).toNat * 256 + (b.getD 3 0).toNat
/-- the record at the beginning of bytes -/
def fstL (b : List UInt8) : Option (List UInt8) :=
  if b.length ≤ 40 then none
  else if num4 b < 1 ∨ 4000 < num4 b ∨ b.length < 40 + num4 b then none
  else if frm ((b.drop 40).take (num4 b)) = b.take (40 + num4 b) then some ((b.drop 40).take (num4 b)) else none
theorem fstL_some {b r : List UInt8} (h : fstL b = some r) : Okr r ∧ b = frm r ++ b.drop (40 + r.length) := by
  unfold fstL at h
  split at h
  · cases h
  · split at h
    · cases h
    · split at h
      · rename_i h1 h2 h3
        injection h with h
        have hl : ((b.drop 40).take (num4 b)).length = num4 b := by rw [List.length_take, List.length_drop]; omega
        rw [← h]
        refine ⟨⟨by rw [hl]; omega, by rw [hl]; omega⟩, ?_⟩
        rw [h3, hl, List.take_append_drop]
      · cases h
/-- the records at the beginning of bytes -/
def rdF : Nat → List UInt8 → List (List UInt8)
  | 0, _ => []
  | f + 1, b => match fstL b with
    | none => []
    | some r => r :: rdF f (b.drop (40 + r.length))
def rdL (b : List UInt8) : List (List UInt8) := rdF b.length b
theorem rdF_more : ∀ (f : Nat) (b : List UInt8), b.length ≤ f → rdF f b = rdF b.length b
  | 0, b, h => by
    obtain rfl : b = [] := List.eq_nil_of_length_eq_zero (by omega)
    rfl
  | f + 1, b, h => by
    by_cases hb : b.length = f + 1
    · rw [hb]
    · cases hl : b.length with
      | zero =>
        obtain rfl : b = [] := List.eq_nil_of_length_eq_zero hl
        rfl
      | succ g =>
        unfold rdF
        cases hf : fstL b with
        | none => rfl
        | some r =>
          have h1 : (b.drop (40 + r.length)).length ≤ g := by rw [List.length_drop]; omega
          simp only
          rw [rdF_more f _ (by omega), rdF_more g _ h1]
theorem rdL_eq (b : List UInt8) : rdL b = match fstL b with | none => [] | some r => r :: rdL (b.drop (40 + r.length)) := by
  cases hl : b.length with
  | zero =>
    obtain rfl : b = [] := List.eq_nil_of_length_eq_zero hl
    rfl
  | succ g =>
    unfold rdL
    rw [hl]
    show (match fstL b with | none => [] | some r => r :: rdF g (b.drop (40 + r.length))) = _
    cases hf : fstL b with
    | none => rfl
    | some r =>
      simp only
      rw [rdF_more g _ (by rw [List.length_drop]; omega)]
theorem rdL_none {b : List UInt8} (h : fstL b = none) : rdL b = [] := by rw [rdL_eq, h]
theorem rdL_some {b r : List UInt8} (h : fstL b = some r) : rdL b = r :: rdL (b.drop (40 + r.length)) := by rw [rdL_eq, h]
theorem rdL_nil : rdL [] = [] := rfl
theorem rdL_split : ∀ (f : Nat) (b : List UInt8), b.length ≤ f → (∀ r ∈ rdL b, Okr r) ∧ b = frs (rdL b) ++ b.drop (frs (rdL b)).length
  | 0, b, h => by
    obtain rfl : b = [] := List.eq_nil_of_length_eq_zero (by omega)
    exact ⟨(fun r hr => by cases hr), rfl⟩
  | f + 1, b, h => by
    cases hf : fstL b with
    | none =>
      rw [rdL_none hf]
      exact ⟨(fun r hr => by cases hr), rfl⟩
    | some r =>
      obtain ⟨h1, h2⟩ := fstL_some hf
      rw [rdL_some hf]
      have hfl := frm_length r
      have hlb : b.length = (frm r).length + (b.drop (40 + r.length)).length := by
        conv => lhs; rw [h2]
        rw [List.length_append]
      obtain ⟨h3, h4⟩ := rdL_split f (b.drop (40 + r.length)) (by omega)
      refine ⟨fun x hx => ?_, ?_⟩
      · rcases List.mem_cons.1 hx with rfl | hx
        · exact h1
        · exact h3 x hx
      · have e : b.drop (40 + r.length + (frs (rdL (b.drop (40 + r.length)))).length) = (b.drop (40 + r.length)).drop (frs (rdL (b.drop (40 + r.length)))).length := by rw [List.drop_drop]
        rw [frs_cons, List.length_append, hfl, List.append_assoc, e, ← h4]
        exact h2
theorem rdL_ok (b : List UInt8) : ∀ r ∈ rdL b, Okr r := (rdL_split _ b (Nat.le_refl _)).1
theorem rdL_take (b : List UInt8) : b.take (frs (rdL b)).length = frs (rdL b) := by
  have h := (rdL_split _ b (Nat.le_refl _)).2
  generalize frs (rdL b) = x at *
  rw [h, List.take_append_of_le_length (Nat.le_refl _), List.take_of_length_le (Nat.le_refl _)]
theorem rdL_len (b : List UInt8) : (frs (rdL b)).length ≤ b.length := by
  have h := congrArg List.length (rdL_take b)
  rw [List.length_take] at h
  omega
end Go.Proofs.YtmlfeljhojmbbaaGreatDoor

namespace Go.Proofs.YtmlfeljhojmbbaaGreatDoor
open Go.RowKit Go.Maps Go.Sort
set_option linter.unusedSimpArgs false
set_option linter.unusedVariables false
set_option maxRecDepth 100000

theorem wraps_i63 (n : Int) (h0 : 0 ≤ n) (h1 : n < 2 ^ 63) : IntKind.i64.wrap n = n := by
  have e : n % 2 ^ 64 = n := Int.emod_eq_of_lt h0 (by omega)
  simp only [IntKind.wrap, IntKind.bits, IntKind.signed, e]
  rw [if_neg]
  simp
  omega
theorem or_i64 (i : Nat) (x y : Int) (hx₀ : 0 ≤ x) (hx : x % 2 ^ i = 0) (hx₁ : x < 2 ^ 63) (hy₀ : 0 ≤ y) (hy : y < 2 ^ i) (hy₁ : y < 2 ^ 63) : bits .or .i64 x y = x + y :=
  bits_join .i64 63 (by decide) wraps_i63 i x y hx₀ hx hx₁ hy₀ hy hy₁
theorem big4_walk (a b c d : UInt8) : bits .or .i64 (bits .or .i64 (bits .or .i64 ((a.toNat : Int) * (16777216 : Int)) ((b.toNat : Int) * (65536 : Int))) ((c.toNat : Int) * (256 : Int))) (d.toNat : Int) = ((a.toNat * 16777216 + b.toNat * 65536 + c.toNat * 256 + d.toNat : Nat) : Int) := by
  have ha := a.toNat_lt
  have hb := b.toNat_lt
  have hc := c.toNat_lt
  have hd := d.toNat_lt
  rw [or_i64 24 ((a.toNat : Int) * (16777216 : Int)) ((b.toNat : Int) * (65536 : Int)) (by omega) (by omega) (by omega) (by omega) (by omega) (by omega), or_i64 16 _ ((c.toNat : Int) * (256 : Int)) (by omega) (by omega) (by omega) (by omega) (by omega) (by omega), or_i64 8 _ (d.toNat : Int) (by omega) (by omega) (by omega) (by omega) (by omega) (by omega)]
  omega
theorem rdB_piece {w : World} {a : Addr} {l : List UInt8} (h : RdB w (some a) l) (k n : Nat) : RdB w (some (a.add k)) ((l.drop k).take n) := by
  intro j hj
  rw [List.length_take, List.length_drop] at hj
  refine ⟨_, rfl, ?_⟩
  rw [h.at2 (by omega)]
  congr 3
  rw [List.getD_eq_getElem?_getD, List.getD_eq_getElem?_getD, List.getElem?_take_of_lt (by omega), List.getElem?_drop]
set_option maxHeartbeats 4000000 in
theorem first_calls (A : Option Addr) (c N : Nat) (b : List UInt8) (w : World) (hr : RdB w A b) (hN : b.length = N) (hc : N ≤ c) (hm : N ≤ 1048576)
    (hk : Rd w (some ⟨1, 0, none⟩) (wds Psha.ks)) (hbg : Rd w (some ⟨0, 0, none⟩) (wds Psha.iv.list)) :
    Calls Tryz.prog 83 #[.slice A N c] w fun e w' => Below w.heap.size w w' ∧ ((fstL b = none ∧ e = .returned (.slice none 0 0)) ∨
      ∃ r g c', fstL b = some r ∧ e = .returned (.slice (some ⟨g, 0, none⟩) r.length c') ∧ Own w' 5 1 (.slice (some ⟨g, 0, none⟩) r.length c') r.length (bys r) ∧ w.heap.size ≤ g) := by
  by_cases h40 : N ≤ 40
  · have hF : fstL b = none := by unfold fstL; rw [if_pos (by omega)]
    go_enter Tryz.func83, Tryz.ntmps83
    go_wp2_with fail
    go_ret
    exact ⟨Below.refl _ _, .inl ⟨hF, rfl⟩⟩
  · obtain ⟨a, rfl, _⟩ := hr 0 (by omega)
    have c0 : w.cell? a = some (.int .u8 ((b.getD 0 0).toNat : Int)) := hr.at_ (k := 0) (by omega)
    have c1 : w.cell? ⟨a.block, a.off + 1, none⟩ = some (.int .u8 ((b.getD 1 0).toNat : Int)) := hr.at_ (k := 1) (by omega)
    have c2 : w.cell? ⟨a.block, a.off + 2, none⟩ = some (.int .u8 ((b.getD 2 0).toNat : Int)) := hr.at_ (k := 2) (by omega)
    have c3 : w.cell? ⟨a.block, a.off + 3, none⟩ = some (.int .u8 ((b.getD 3 0).toNat : Int)) := hr.at_ (k := 3) (by omega)
    have hnum : num4 b = (b.getD 0 0).toNat * 16777216 + (b.getD 1 0).toNat * 65536 + (b.getD 2 0).toNat * 256 + (b.getD 3 0).toNat := rfl
    generalize b.getD 0 0 = x0 at c0 hnum
    generalize b.getD 1 0 = x1 at c1 hnum
    generalize b.getD 2 0 = x2 at c2 hnum
    generalize b.getD 3 0 = x3 at c3 hnum
    have hor := big4_walk x0 x1 x2 x3
    rw [← hnum] at hor
    have u0 := x0.toNat_lt
    have u1 := x1.toNat_lt
    have u2 := x2.toNat_lt
    have u3 := x3.toNat_lt
    obtain ⟨M, hM⟩ : ∃ M, M = num4 b := ⟨_, rfl⟩
    rw [← hM] at hor hnum
    have hsum : (x0.toNat : Int) * 16777216 + (x1.toNat : Int) * 65536 + (x2.toNat : Int) * 256 + (x3.toNat : Int) = (M : Int) := by omega
    have HM := Shut.mk hM
    have HR := Shut.mk hr
    have HN := Shut.mk hN
    have HK := Shut.mk hk
    have HG := Shut.mk hbg
    have HOR := Shut.mk hor
    clear hr hN hk hbg hM hor
    have hb0 : Below w.heap.size w w.drew := (Below.refl _ w).drew
    have HB0 := Shut.mk hb0
    clear hb0
    by_cases hbad : M < 1 ∨ 4000 < M ∨ N < 40 + M
    · have HF : Shut (fstL b = none) := ⟨by unfold fstL; rw [if_neg (by rw [HN.out]; omega), if_pos (by rw [← HM.out, HN.out]; omega)]⟩
      go_enter Tryz.func83, Tryz.ntmps83
      go_wp2_with fail
      go_region
      rw [HOR.out]
      clear hsum hnum u0 u1 u2 u3
      by_cases hb1 : M < 1
      · go_wp2_with fail
        go_ret
        exact ⟨HB0.out, .inl ⟨HF.out, rfl⟩⟩
      · by_cases hb2 : 4000 < M
        · go_wp2_with fail
          go_ret
          exact ⟨HB0.out, .inl ⟨HF.out, rfl⟩⟩
        · have hb3 : N < 40 + M := by omega
          go_wp2_with fail
          go_ret
          exact ⟨HB0.out, .inl ⟨HF.out, rfl⟩⟩
    · have hg1 : 1 ≤ M := by omega
      have hg2 : M ≤ 4000 := by omega
      have hg3 : 40 + M ≤ N := by omega
      clear hbad
      have HL : Shut (((b.drop 40).take M).length = M) := ⟨by rw [List.length_take, List.length_drop, HN.out]; omega⟩
      have HP := Shut.mk (RdB.keep (rdB_piece HR.out 40 M) HB0.out)
      have HT := Shut.mk (RdB.keep (RdB.take HR.out (40 + M)) HB0.out)
      have HTL : Shut ((b.take (40 + M)).length = 40 + M) := ⟨by rw [List.length_take, HN.out]; omega⟩
      have HFE : Shut (fstL b = if frm ((b.drop 40).take M) = b.take (40 + M) then some ((b.drop 40).take M) else none) := ⟨by
        unfold fstL
        rw [if_neg (by rw [HN.out]; omega), ← HM.out, if_neg (by rw [HN.out]; omega)]⟩
      generalize (b.drop 40).take M = r at HL HP HFE
      generalize b.take (40 + M) = bt at HT HTL HFE
      go_enter Tryz.func83, Tryz.ntmps83
      go_wp2_with fail
      go_region
      rw [HOR.out]
      clear hsum hnum u0 u1 u2 u3 c0 c1 c2 c3
      go_wp2_with fail
      refine (frame_calls _ M M r _ HP.out HL.out hg1 hg2 (HK.out.keep HB0.out) (HG.out.keep HB0.out)).mono ?_
      rintro e w2 ⟨v2, rfl, ho2, hb2, hn2⟩
      obtain ⟨A2, c2, rfl, _, hac2, _⟩ := ho2.form
      have HB2 := Shut.mk (HB0.out.trans (hb2.mono HB0.out.size))
      have HFB := Shut.mk (rdb_own _ ho2)
      have HFL := Shut.mk (show (frm r).length = 40 + M by rw [frm_length, HL.out])
      have HT2 := Shut.mk (HT.out.keep hb2)
      have HP2 := Shut.mk (HP.out.keep hb2)
      clear ho2 hb2
      go_wp2_with fail
      refine (equal_calls A2 (some a) (40 + M) c2 (40 + M) c (frm r) bt w2 HFB.out HT2.out HFL.out HTL.out).mono ?_
      rintro e w' ⟨rfl, rfl⟩
      by_cases hE : frm r = bt
      · have hE' : (frm r == bt) = true := by rw [beq_iff_eq]; exact hE
        rw [hE']
        have HF := Shut.mk (HFE.out.trans (if_pos hE))
        clear hE hE'
        go_wp2_with fail
        refine (clone_n _ M M r w2 HP2.out (by rw [HL.out]; unfold reach; omega) HL.out).mono ?_
        rintro e w3 ⟨v3, rfl, ho3, hb3, hn3⟩
        rw [HL.out] at ho3
        obtain ⟨g3, c3, rfl, _⟩ := ho3.head (by omega)
        go_wp2_with fail
        go_ret
        refine ⟨HB2.out.trans (hb3.mono HB2.out.size), .inr ⟨r, g3, c3, HF.out, ?_, ?_, Nat.le_trans HB2.out.size (hn3 g3 rfl)⟩⟩
        · rw [HL.out]
          rfl
        · rw [HL.out]
          exact ho3
      · have hE' : (frm r == bt) = false := by rw [beq_eq_false_iff_ne]; exact hE
        rw [hE']
        have HF := Shut.mk (HFE.out.trans (if_neg hE))
        clear hE hE'
        go_wp2_with fail
        go_ret
        exact ⟨HB2.out, .inl ⟨HF.out, rfl⟩⟩
end Go.Proofs.YtmlfeljhojmbbaaGreatDoor

namespace Go.Proofs.YtmlfeljhojmbbaaGreatDoor
open Go.RowKit Go.Maps Go.Sort
set_option linter.unusedSimpArgs false
set_option linter.unusedVariables false
set_option maxRecDepth 100000

theorem its_get {l : List Nat} {j : Nat} (h : j < l.length) : (its l)[j]? = some (.int .i64 (l[j] : Int)) := by
  rw [its, List.getElem?_map, List.getElem?_eq_getElem h]
  rfl
section
variable {w : World} {gl gd Z : Nat} {H : List Nat} {d : Ds} {l : List Nat} {dead : Bool}
theorem note_calls (h : LD w gl gd Z H d l dead) (x : Int) : Calls Tryz.prog 51 #[gp gl, .int .i64 x] w fun e w' => e = .returned (.int .i64 x) ∧ LStp w w' gl gd Z H d l (dead || decide (x = 62)) := by
  obtain ⟨A, c, h1, h2, h3, h4, h5⟩ := h.log
  have q2 : w.cell? ⟨gl, 2, none⟩ = some (.bool dead) := h1.cell 2
  have fr : w.frozen? ⟨gl, 2, none⟩ = false := h1.free 2
  have HS := Shut.mk (h4 true)
  have HK := Shut.mk (LStp.same h)
  clear h1 h2 h3 h4 h5 h
  by_cases hx : x = 62
  · subst hx
    go_enter Tryz.func51, Tryz.ntmps51
    go_wp2_with fail
    go_ret
    refine ⟨rfl, ?_⟩
    simpa using HS.out
  · go_enter Tryz.func51, Tryz.ntmps51
    go_wp2_with fail
    go_ret
    refine ⟨rfl, ?_⟩
    rw [decide_eq_false hx, Bool.or_false]
    exact HK.out
theorem none_calls (h : LD w gl gd Z H d l dead) : Calls Tryz.prog 47 #[gp gl] w fun e w' => e = .returned (.bool false) ∧ w = w' := by
  obtain ⟨A, c, h1, h2, h3, h4, h5⟩ := h.log
  have q0 : w.cell? ⟨gl, 0, none⟩ = some (gp gd) := h1.cell 0
  clear h1 h2 h3 h4 h5 h
  go_enter Tryz.func47, Tryz.ntmps47
  go_wp2_with fail
  go_ret
  exact ⟨rfl, rfl⟩
end
end Go.Proofs.YtmlfeljhojmbbaaGreatDoor

namespace Go.Proofs.YtmlfeljhojmbbaaGreatDoor
open Go.RowKit Go.Maps Go.Sort
set_option linter.unusedSimpArgs false
set_option linter.unusedVariables false
set_option maxRecDepth 100000

theorem info_str7 : (Tryz.prog.info? 9).map (fun i => (i.zero, i.size, i.bytes)) = some (some (.string ByteArray.empty), 1, 16) := by kernel_rfl
theorem contains_names (v : Value) (ls : List (List UInt8)) (n : Nat) (s : ByteArray) (w : World) (ho : Own w 9 1 v n (ls.map Proofs.encStr)) (hn : ls.length = n) :
    Calls Tryz.prog 45 #[v, .string s] w fun e w' => e = .returned (.bool (decide (s.data.toList ∈ ls))) ∧ w' = w := by
  obtain ⟨hlen, ho'⟩ := ho
  rcases ho' with ⟨rfl, rfl⟩ | ⟨g, cap, cur, rfl, hg, hnc, hcm, hcs, ht⟩
  · have hl : ls = [] := List.eq_nil_of_length_eq_zero (by simpa using hn)
    subst hl
    simpa using sh_ContainsS0 none 0 s w
  · have hrd := (Own.form (w := w) (e := 9) (size := 1) (v := .slice (some ⟨g, 0, none⟩) n cap) (n := n) (xs := ls.map Proofs.encStr) ⟨hlen, .inr ⟨g, cap, cur, rfl, hg, hnc, hcm, hcs, ht⟩⟩)
    obtain ⟨A, c, e1, hr, _, hc2, _⟩ := hrd
    injection e1 with e1 _ e2
    subst e1
    subst e2
    refine (sh_ContainsS g 0 n cap (ls.map fun l => ByteArray.mk l.toArray) s w (by simp [hn]) (by unfold maxLen at hcm; omega) ?_).mono ?_
    · intro j hj
      rw [List.length_map] at hj
      have hne : ls.map Proofs.encStr ≠ [] := by
        intro e
        have := congrArg List.length e
        simp at this
        subst this
        simp at hj
      obtain ⟨ad, e3, hc⟩ := hr hne
      injection e3 with e3
      subst e3
      have h9 := hc j (.string ⟨(ls[j]).toArray⟩) (by rw [List.getElem?_map, List.getElem?_eq_getElem hj]; rfl)
      rw [add_head] at h9
      rw [show 0 + j = j by omega, h9, List.getD_eq_getElem?_getD, List.getElem?_map, List.getElem?_eq_getElem hj]
      rfl
    · rintro e w' ⟨rfl, rfl⟩
      refine ⟨?_, rfl⟩
      rw [List.take_of_length_le (by simp [hn])]
      congr 2
      rw [Bool.eq_iff_iff, Lib.containsS_iff, decide_eq_true_eq, List.mem_map]
      constructor
      · rintro ⟨l, hl, rfl⟩
        simpa using hl
      · intro h
        exact ⟨s.data.toList, h, by simp⟩
section
variable {w : World} {gl gd Z : Nat} {H : List Nat} {d : Ds} {l : List Nat} {dead : Bool}
theorem has_calls (h : LD w gl gd Z H d l dead) (hn : d.n < 1000000000) (s : ByteArray) : Calls Tryz.prog 41 #[gp gl, .string s] w fun e w' => e = .returned (.bool (look d.S s.data.toList).isSome) ∧ Below w.heap.size w w' := by
  obtain ⟨A, c, h1, h2, h3, h4, h5⟩ := h.log
  have q0 : w.cell? ⟨gl, 0, none⟩ = some (gp gd) := h1.cell 0
  obtain ⟨F, hD, _⟩ := h.disk
  have HL := Shut.mk (dd_ls hD hn)
  clear h1 h2 h3 h4 h5 h hD
  go_enter Tryz.func41, Tryz.ntmps41
  go_wp2_with fail
  refine HL.out.mono ?_
  rintro e w' ⟨v, rfl, ho, hb, hnw⟩
  go_wp2_with fail
  refine (contains_names v (lsD d) _ s w' ho rfl).mono ?_
  rintro e w2 ⟨rfl, rfl⟩
  go_wp2_with fail
  go_ret
  refine ⟨congrArg (fun b => Ending.returned (Value.bool b)) ?_, hb⟩
  rw [Bool.eq_iff_iff, decide_eq_true_eq, lsD_mem]
  cases look d.S s.data.toList <;> simp
theorem segments_calls (h : LD w gl gd Z H d l dead) (hl : ∀ n ∈ l, n ≤ 99999999) (hm : l.length ≤ 100000000) : Calls Tryz.prog 44 #[gp gl] w fun e w' => ∃ v, e = .returned v ∧ Own w' 9 1 v l.length ((l.map seg).map Proofs.encStr) ∧ Below w.heap.size w w' ∧ ∀ g, v.ownBlock = some g → w.heap.size ≤ g := by
  obtain ⟨i0, hi, hz0, hz1, hz2⟩ := info_parts info_str7
  have HNO := Shut.mk (none_calls h)
  have htb := h.tb
  have hzs := h.zs
  obtain ⟨A, c, h1, h2, h3, h4, h5⟩ := h.log
  have q1 : w.cell? ⟨gl, 1, none⟩ = some (.slice A l.length c) := h1.cell 1
  have HR := Shut.mk h2
  have HT := Shut.mk htb
  have HLL := Shut.mk hl
  obtain ⟨N, hN⟩ : ∃ N, N = l.length := ⟨_, rfl⟩
  rw [← hN] at q1 hm ⊢
  have HN := Shut.mk hN
  clear h1 h2 h3 h4 h5 h htb hl hN
  go_enter Tryz.func44, Tryz.ntmps44
  go_wp2_with fail
  refine HNO.out.mono ?_
  rintro e w' ⟨rfl, rfl⟩
  go_wp2_with fail
  go_loopw [3, 13] (fun u i wr => ∃ k : Nat, k ≤ N ∧ i = .int .i64 k ∧ Own wr 9 1 u k (((l.take k).map seg).map Proofs.encStr) ∧ Shut (∀ g, u.ownBlock = some g → w.heap.size ≤ g) ∧ Below w.heap.size w wr) (fun _ i _ => N - (intOf i).toNat)
  case atStart => exact ⟨0, Nat.zero_le _, rfl, Own.nil _ _ _, ⟨fun g hg => by cases hg⟩, Below.refl _ _⟩
  case round =>
    obtain ⟨k, hk, rfl, ho, hnw, hbr⟩ := hrel
    obtain ⟨A1, c1, rfl, _⟩ := ho.form
    have hsz := hbr.size
    by_cases hlt : k < N
    · have hkl : k < l.length := by rw [← HN.out]; exact hlt
      obtain ⟨a, hA, hc⟩ := HR.out (its_ne (fun e => by rw [e] at hkl; simp at hkl))
      subst hA
      have c0 := hc k _ (its_get hkl)
      have c2 := (hbr.cell (World.block_lt_of_cell? w _ c0)).trans c0
      obtain ⟨n, hn⟩ : ∃ n, n = l[k] := ⟨_, rfl⟩
      have hn9 : n ≤ 99999999 := by rw [hn]; exact HLL.out _ (List.getElem_mem _)
      rw [← hn] at c2
      have HN2 := Shut.mk hn
      have HTW := Shut.mk (HT.out.below (hbr.mono hzs))
      have HO := Shut.mk ho
      have HB := Shut.mk hbr
      have hkI : (k : Int) < (N : Int) := by omega
      clear hc c0 hn ho hbr
      go_wp2_with fail
      refine (file_calls n wr hn9 HTW.out.p).mono ?_
      rintro e w2 ⟨rfl, hb2⟩
      have ho2 := (HO.out.below hb2 (fun g hg => HO.out.block_lt hg)).alloc (.cells #[.string (segS n)] 9)
      have HB2 := Shut.mk (HB.out.trans (hb2.mono HB.out.size))
      have hs2 := HB2.out.size
      go_wp2_with (at_builtin; refine wpList_append _ rfl _ _ _ rfl 9 i0 _ 1 16 Tryz.underlying51 hi hz0 hz1 hz2 rfl (by decide) _ _ _ rfl ho2 _ 1 1 _ rfl (by rfl) (rd_new w2 #[.string (segS n)] 9) (by simp [Value.oneCell']) (by simp only [maxLen]; omega) (by omega) ?_; intro v6 w6 hap6)
      obtain ⟨g6, c6, rfl, _, _⟩ := hap6.own.head (by omega)
      go_roundw
      case rel =>
        have hbr' := HB2.out.alloc hs2 (.cells #[.string (segS n)] 9)
        refine ⟨k + 1, by omega, by go_num, hap6.own.cast rfl ?_, ⟨new_append (by simp; omega) hnw.out hap6.lies⟩, hbr'.grown hap6.grown (by simp; omega) hnw.out⟩
        rw [List.take_succ_eq_append_getElem hkl, List.map_append, List.map_append, ← HN2.out]
        rfl
      case measure => first | (simp [intOf]; done) | (simp [intOf]; omega)
    · obtain rfl : k = N := by omega
      go_wp2_with fail
      go_ret
      refine ⟨_, rfl, ?_, hbr, hnw.out⟩
      rw [List.take_of_length_le (by rw [← HN.out]; exact Nat.le_refl _)] at ho
      exact ho
end
end Go.Proofs.YtmlfeljhojmbbaaGreatDoor

namespace Go.Proofs.YtmlfeljhojmbbaaGreatDoor
open Go.RowKit Go.Maps Go.Sort
set_option linter.unusedSimpArgs false
set_option linter.unusedVariables false
set_option maxRecDepth 100000

/-- a disk that k more writes to its map do no harm -/
structure OkN (d : Ds) (k : Nat) : Prop where
  n : d.n + k ≤ 800000000
  r0 : 0 ≤ d.room
  r1 : d.room ≤ 1099511627776
  s0 : -1 ≤ d.short
  s1 : d.short ≤ 9223372036854775807
  f0 : -1 ≤ d.fuse
  f1 : d.fuse ≤ 9223372036854775807
theorem OkN.ok {d : Ds} {k : Nat} (h : OkN d k) : d.Ok := ⟨by have := h.n; omega, h.r0, h.r1, h.s0, h.s1, h.f0, h.f1⟩
theorem OkN.mono {d : Ds} {k j : Nat} (h : OkN d k) (hj : j ≤ k) : OkN d j := ⟨by have := h.n; omega, h.r0, h.r1, h.s0, h.s1, h.f0, h.f1⟩
theorem OkN.burn {d : Ds} {k : Nat} (h : OkN d k) (b : Bool) : OkN (d.burn b) k := ⟨h.n, h.r0, h.r1, h.s0, h.s1, (chFuse_range h.f0 h.f1).1, (chFuse_range h.f0 h.f1).2⟩
theorem OkN.app {d : Ds} {k : Nat} (h : OkN d (k + 1)) (s b : List UInt8) : OkN (dApp d s b).2.2 k := by
  have h1 := chFuse_range (ok := true) h.f0 h.f1
  have hn := h.n
  unfold dApp
  split
  · exact (h.burn _).mono (by omega)
  · split
    · exact ⟨by show d.n + 1 + k ≤ _; omega, h.r0, h.r1, by simp, by simp, h1.1, h1.2⟩
    · exact ⟨by show d.n + 1 + k ≤ _; omega, h.r0, h.r1, by simp, by simp, h1.1, h1.2⟩
theorem OkN.sync {d : Ds} {k : Nat} (h : OkN d k) (s : List UInt8) : OkN (dSync d s).2 k := by
  have h1 := chFuse_range (ok := true) h.f0 h.f1
  unfold dSync
  split
  · exact h
  · split
    · exact h.burn _
    · exact ⟨h.n, h.r0, h.r1, h.s0, h.s1, h1.1, h1.2⟩
theorem OkN.del {d : Ds} {k : Nat} (h : OkN d k) (s : List UInt8) : OkN (dDel d s).2 k := by
  have h1 := chFuse_range (ok := true) h.f0 h.f1
  unfold dDel
  split
  · exact h
  · split
    · exact h.burn _
    · exact ⟨h.n, h.r0, h.r1, h.s0, h.s1, h1.1, h1.2⟩
theorem OkN.ren {d : Ds} {k : Nat} (h : OkN d (k + 1)) (a z : List UInt8) : OkN (dRen d a z).2 k := by
  have h1 := chFuse_range (ok := true) h.f0 h.f1
  have hn := h.n
  unfold dRen
  split
  · exact (h.burn _).mono (by omega)
  · split
    · exact (h.burn _).mono (by omega)
    · exact ⟨by show d.n + 1 + k ≤ _; omega, h.r0, h.r1, h.s0, h.s1, h1.1, h1.2⟩
theorem OkN.cut {d : Ds} {k : Nat} (h : OkN d k) (s : List UInt8) (x : Int) : OkN (dCut d s x).2 k := by
  have h1 := chFuse_range (ok := true) h.f0 h.f1
  unfold dCut
  split
  · exact h.burn _
  · split
    · exact h.burn _
    · exact ⟨h.n, h.r0, h.r1, h.s0, h.s1, h1.1, h1.2⟩
section
variable {w w' : World} {gl gd Z : Nat} {H : List Nat} {d : Ds} {l : List Nat} {dead : Bool}
theorem ld_append (h : LD w gl gd Z H d l dead) (ho : d.Ok) (s : ByteArray) (A : Option Addr) (m c : Nat) (b : List UInt8) (hs : s.size ≤ reach) (hr : RdB w A b) (hm : b.length = m) (hmc : m ≤ c) (hml : m ≤ reach) :
    Calls Tryz.prog 21 #[gp gd, .string s, .slice A m c] w fun e w' => e = .returned (.tuple #[.int .i64 ((dApp d s.data.toList b).2.1 : Int), .int .i64 (dApp d s.data.toList b).1]) ∧ LStp w w' gl gd Z H (dApp d s.data.toList b).2.2 l dead := by
  obtain ⟨F, hD, hst⟩ := h.disk
  exact (dd_append hD ho s A m c b hs hr hm hmc hml).mono fun e w' ⟨he, ha⟩ => ⟨he, hst ha⟩
theorem ld_sync (h : LD w gl gd Z H d l dead) (ho : d.Ok) (s : ByteArray) (hs : s.size ≤ reach) :
    Calls Tryz.prog 24 #[gp gd, .string s] w fun e w' => e = .returned (.int .i64 (dSync d s.data.toList).1) ∧ LStp w w' gl gd Z H (dSync d s.data.toList).2 l dead := by
  obtain ⟨F, hD, hst⟩ := h.disk
  exact (dd_sync hD ho s hs).mono fun e w' ⟨he, ha⟩ => ⟨he, hst ha⟩
theorem ld_remove (h : LD w gl gd Z H d l dead) (ho : d.Ok) (s : ByteArray) (hs : s.size ≤ reach) :
    Calls Tryz.prog 30 #[gp gd, .string s] w fun e w' => e = .returned (.int .i64 (dDel d s.data.toList).1) ∧ LStp w w' gl gd Z H (dDel d s.data.toList).2 l dead := by
  obtain ⟨F, hD, hst⟩ := h.disk
  exact (dd_remove hD ho s hs).mono fun e w' ⟨he, ha⟩ => ⟨he, hst ha⟩
theorem ld_rename (h : LD w gl gd Z H d l dead) (ho : d.Ok) (s t : ByteArray) (hs : s.size ≤ reach) (ht : t.size ≤ reach) :
    Calls Tryz.prog 28 #[gp gd, .string s, .string t] w fun e w' => e = .returned (.int .i64 (dRen d s.data.toList t.data.toList).1) ∧ LStp w w' gl gd Z H (dRen d s.data.toList t.data.toList).2 l dead := by
  obtain ⟨F, hD, hst⟩ := h.disk
  exact (dd_rename hD ho s t hs ht).mono fun e w' ⟨he, ha⟩ => ⟨he, hst ha⟩
theorem ld_cut (h : LD w gl gd Z H d l dead) (ho : d.Ok) (s : ByteArray) (k : Int) (hs : s.size ≤ reach) :
    Calls Tryz.prog 26 #[gp gd, .string s, .int .i64 k] w fun e w' => e = .returned (.int .i64 (dCut d s.data.toList k).1) ∧ LStp w w' gl gd Z H (dCut d s.data.toList k).2 l dead := by
  obtain ⟨F, hD, hst⟩ := h.disk
  exact (dd_cut hD ho s k hs).mono fun e w' ⟨he, ha⟩ => ⟨he, hst ha⟩
theorem LStp.wider {B : List Nat} {d' : Ds} {l' : List Nat} {dead' : Bool} (h : LStp w w' gl gd Z H d' l' dead') (hz : ∀ x ∈ H, Z ≤ x) (hB : ∀ x ∈ B, x ∉ H ∧ Z ≤ x) : LStp w w' gl gd Z (B ++ H) d' l' dead' := by
  obtain ⟨H', h1, h2, h3⟩ := h
  exact ⟨H', h1, h2.mono fun x hx => List.mem_append_right _ hx, fun x hx => (h3 x hx).elim (fun h => .inl (List.mem_append_right _ h)) .inr⟩
/-! ### write -/
def freshN : List UInt8 := [109, 97, 110, 105, 102, 101, 115, 116, 46, 110, 101, 119]
def manN : List UInt8 := [109, 97, 110, 105, 102, 101, 115, 116]
theorem fresh_append (h : LD w gl gd Z H d l dead) (ho : d.Ok) (A : Option Addr) (m c : Nat) (b : List UInt8) (hr : RdB w A b) (hm : b.length = m) (hmc : m ≤ c) (hml : m ≤ reach) :
    Calls Tryz.prog 21 #[gp gd, .string ⟨#[109, 97, 110, 105, 102, 101, 115, 116, 46, 110, 101, 119]⟩, .slice A m c] w fun e w' => e = .returned (.tuple #[.int .i64 ((dApp d freshN b).2.1 : Int), .int .i64 (dApp d freshN b).1]) ∧ LStp w w' gl gd Z H (dApp d freshN b).2.2 l dead :=
  ld_append h ho ⟨#[109, 97, 110, 105, 102, 101, 115, 116, 46, 110, 101, 119]⟩ A m c b (by unfold reach; decide) hr hm hmc hml
theorem fresh_sync (h : LD w gl gd Z H d l dead) (ho : d.Ok) :
    Calls Tryz.prog 24 #[gp gd, .string ⟨#[109, 97, 110, 105, 102, 101, 115, 116, 46, 110, 101, 119]⟩] w fun e w' => e = .returned (.int .i64 (dSync d freshN).1) ∧ LStp w w' gl gd Z H (dSync d freshN).2 l dead :=
  ld_sync h ho ⟨#[109, 97, 110, 105, 102, 101, 115, 116, 46, 110, 101, 119]⟩ (by unfold reach; decide)
theorem fresh_remove (h : LD w gl gd Z H d l dead) (ho : d.Ok) :
    Calls Tryz.prog 30 #[gp gd, .string ⟨#[109, 97, 110, 105, 102, 101, 115, 116, 46, 110, 101, 119]⟩] w fun e w' => e = .returned (.int .i64 (dDel d freshN).1) ∧ LStp w w' gl gd Z H (dDel d freshN).2 l dead :=
  ld_remove h ho ⟨#[109, 97, 110, 105, 102, 101, 115, 116, 46, 110, 101, 119]⟩ (by unfold reach; decide)
theorem fresh_rename (h : LD w gl gd Z H d l dead) (ho : d.Ok) :
    Calls Tryz.prog 28 #[gp gd, .string ⟨#[109, 97, 110, 105, 102, 101, 115, 116, 46, 110, 101, 119]⟩, .string ⟨#[109, 97, 110, 105, 102, 101, 115, 116]⟩] w fun e w' => e = .returned (.int .i64 (dRen d freshN manN).1) ∧ LStp w w' gl gd Z H (dRen d freshN manN).2 l dead :=
  ld_rename h ho ⟨#[109, 97, 110, 105, 102, 101, 115, 116, 46, 110, 101, 119]⟩ ⟨#[109, 97, 110, 105, 102, 101, 115, 116]⟩ (by unfold reach; decide) (by unfold reach; decide)
def manB (ss : List Nat) : List UInt8 := ss.flatMap fun n => putl n 8
theorem manB_length (ss : List Nat) : (manB ss).length = 8 * ss.length := by
  induction ss with
  | nil => rfl
  | cons n r ih =>
    show (putl n 8 ++ manB r).length = _
    rw [List.length_append, putl_length, ih, List.length_cons]
    omega
def wrt3 (d : Ds) (ss : List Nat) : Int × Ds :=
  if (dApp d freshN (frm (manB ss))).1 ≠ 0 then ((dApp d freshN (frm (manB ss))).1, (dApp d freshN (frm (manB ss))).2.2)
  else if (dSync (dApp d freshN (frm (manB ss))).2.2 freshN).1 ≠ 0 then dSync (dApp d freshN (frm (manB ss))).2.2 freshN
  else dRen (dSync (dApp d freshN (frm (manB ss))).2.2 freshN).2 freshN manN
def lWrite (d : Ds) (l : List Nat) (dead : Bool) (ss : List Nat) : Int × Ds × List Nat × Bool :=
  if (wrt3 d ss).1 = 0 then (0, (wrt3 d ss).2, ss, dead)
  else ((wrt3 d ss).1, (dDel (wrt3 d ss).2 freshN).2, l, (dead || decide ((dDel (wrt3 d ss).2 freshN).1 = 62)) || decide ((wrt3 d ss).1 = 62))
theorem man_calls (h : LD w gl gd Z H d l dead) (ho : OkN d 2) (A : Option Addr) (c : Nat) (ss : List Nat) (hr : Rd w A (its ss)) (hcap : RowOk A ss.length c) (hA : ∀ a, A = some a → a.block ∉ H ∧ Z ≤ a.block ∧ a.block < w.heap.size) (h1 : 1 ≤ ss.length) (h2 : ss.length ≤ 500) (h9 : ∀ n ∈ ss, n ≤ 99999999) :
    Calls Tryz.prog 42 #[gp gl, .slice A ss.length c] w fun e w' => e = .returned (.int .i64 (lWrite d l dead ss).1) ∧ LStp w w' gl gd Z (blkOf A ++ H) (lWrite d l dead ss).2.1 (lWrite d l dead ss).2.2.1 (lWrite d l dead ss).2.2.2 := by
  have htb := h.tb
  have hzs := h.zs
  have HZ := Shut.mk h.z
  have HA : Shut (∀ x ∈ blkOf A, x ∉ H ∧ Z ≤ x) := ⟨fun x hx => by
    cases A with
    | none => cases hx
    | some a =>
      obtain rfl : x = a.block := by simpa [blkOf] using hx
      exact ⟨(hA a rfl).1, (hA a rfl).2.1⟩⟩
  have HA2 := Shut.mk hA
  have HCAP := Shut.mk hcap
  have HR := Shut.mk hr
  have HT := Shut.mk htb
  have HLL := Shut.mk h9
  have HL := Shut.mk h
  have HO := Shut.mk ho
  obtain ⟨N, hN⟩ : ∃ N, N = ss.length := ⟨_, rfl⟩
  rw [← hN] at h1 h2 ⊢
  have HN := Shut.mk hN
  clear hr hA h htb h9 ho hN hcap
  go_enter Tryz.func42, Tryz.ntmps42
  go_wp2_with fail
  go_loopw [5, 12] (fun u i wr => ∃ k : Nat, k ≤ N ∧ i = .int .i64 k ∧ Own wr 5 1 u (8 * k) (bys (manB (ss.take k))) ∧ Shut (∀ g, u.ownBlock = some g → w.heap.size ≤ g) ∧ Below w.heap.size w wr) (fun _ i _ => N - (intOf i).toNat)
  case atStart => exact ⟨0, Nat.zero_le _, rfl, Own.nil _ _ _, ⟨fun g hg => by cases hg⟩, Below.refl _ _⟩
  case round =>
    obtain ⟨k, hk, rfl, ho, hnw, hbr⟩ := hrel
    obtain ⟨A1, c1, rfl, _⟩ := ho.form
    have hsz := hbr.size
    by_cases hlt : k < N
    · have hkl : k < ss.length := by rw [← HN.out]; exact hlt
      obtain ⟨a, hA, hc⟩ := HR.out (its_ne (fun e => by rw [e] at hkl; simp at hkl))
      subst hA
      have c0 := hc k _ (its_get hkl)
      have c2 := (hbr.cell (World.block_lt_of_cell? w _ c0)).trans c0
      obtain ⟨n, hn⟩ : ∃ n, n = ss[k] := ⟨_, rfl⟩
      have hn9 : n ≤ 99999999 := by rw [hn]; exact HLL.out _ (List.getElem_mem _)
      rw [← hn] at c2
      have HN2 := Shut.mk hn
      have HMS := Shut.mk (show manB (ss.take (k + 1)) = manB (ss.take k) ++ putl n 8 by rw [List.take_succ_eq_append_getElem hkl, hn]; unfold manB; rw [List.flatMap_append, List.flatMap_cons, List.flatMap_nil, List.append_nil])
      have HO2 := Shut.mk ho
      have HB := Shut.mk hbr
      have hkI : (k : Int) < (N : Int) := by omega
      have HM := Shut.mk (show (manB (ss.take k)).length = 8 * k by rw [manB_length, List.length_take, Nat.min_eq_left (Nat.le_of_lt hkl)])
      clear hc c0 hn ho hbr
      go_wp2_with fail
      refine (put_calls _ (manB (ss.take k)) n 8 w.heap.size wr (HO2.out.cast (by rw [HM.out]) rfl) hsz hnw.out (by omega) (by omega) (by rw [HM.out]; omega)).mono ?_
      rintro e w2 ⟨v2, rfl, ho2, hb2, hn2⟩
      rw [HM.out] at ho2
      go_wp2_with fail
      go_roundw
      case rel =>
        refine ⟨k + 1, by omega, by go_num, ho2.cast (by omega) ?_, ⟨hn2⟩, HB.out.trans hb2⟩
        rw [HMS.out]
      case measure => first | (simp [intOf]; done) | (simp [intOf]; omega)
    · obtain rfl : k = N := by omega
      rw [List.take_of_length_le (by rw [← HN.out]; exact Nat.le_refl _)] at ho
      have HM := Shut.mk (show (manB ss).length = 8 * k by rw [manB_length, HN.out])
      have HRB := Shut.mk (rdb_own _ ho)
      have HB := Shut.mk hbr
      have HTW := Shut.mk (HT.out.below (hbr.mono hzs))
      clear ho hbr
      go_wp2_with fail
      refine (frame_calls A1 c1 (8 * k) (manB ss) wr HRB.out HM.out (by omega) (by omega) HTW.out.k HTW.out.b).mono ?_
      rintro e w2 ⟨v2, rfl, ho2, hb2, hn2⟩
      obtain ⟨A2, c2, rfl, _, hac2, _⟩ := ho2.form
      have HB2 := Shut.mk (HB.out.trans (hb2.mono HB.out.size))
      have hL2 := HL.out.quiet HB2.out
      have HFB := Shut.mk (rdb_own _ ho2)
      have HFL := Shut.mk (show (frm (manB ss)).length = 40 + 8 * k by rw [frm_length, HM.out])
      have HO2 := Shut.mk ho2
      obtain ⟨A4, c4, g1, g2, g3, g4, g5⟩ := hL2.log
      have t0 : w2.cell? ⟨gl, 0, none⟩ = some (gp gd) := g1.cell 0
      clear g1 g2 g3 g4 g5 ho2
      have HL2 := Shut.mk hL2
      clear hL2
      go_wp2_with fail
      refine (fresh_append HL2.out HO.out.ok A2 (40 + 8 * k) c2 (frm (manB ss)) HFB.out HFL.out hac2 (by unfold reach; omega)).mono ?_
      rintro e w3 ⟨rfl, hst⟩
      obtain ⟨H3, hL3, hk3, hs3⟩ := hst
      have HK3 := Shut.mk (show Kb w w3 H ∧ ∀ x ∈ H3, x ∈ H ∨ w.heap.size ≤ x from ⟨(Kb.of_below HB2.out H).trans hk3 (fun x hx => .inl hx), fun x hx => (hs3 x hx).imp id (fun h => Nat.le_trans HB2.out.size h)⟩)
      clear hk3 hs3
      have HO3 := Shut.mk (HO.out.app freshN (frm (manB ss)))
      by_cases hE1 : (dApp d freshN (frm (manB ss))).1 = 0
      · rw [hE1]
        have HE1 := Shut.mk hE1
        clear hE1
        obtain ⟨A4, c4, g1, g2, g3, g4, g5⟩ := hL3.log
        have t0 : w3.cell? ⟨gl, 0, none⟩ = some (gp gd) := g1.cell 0
        clear g1 g2 g3 g4 g5
        have HL3 := Shut.mk hL3
        clear hL3
        go_wp2_with fail
        refine (fresh_sync HL3.out HO3.out.ok).mono ?_
        rintro e w4 ⟨rfl, hst⟩
        obtain ⟨H4, hL4, hk4, hs4⟩ := hst
        have HK4 := Shut.mk (show Kb w w4 H ∧ ∀ x ∈ H4, x ∈ H ∨ w.heap.size ≤ x from ⟨HK3.out.1.trans hk4 HK3.out.2, fun x hx => (hs4 x hx).elim (HK3.out.2 x) (fun h => .inr (Nat.le_trans HK3.out.1.size h))⟩)
        clear hk4 hs4
        have HO4 := Shut.mk (HO3.out.sync freshN)
        by_cases hE2 : (dSync (dApp d freshN (frm (manB ss))).2.2 freshN).1 = 0
        · rw [hE2]
          have HE2 := Shut.mk hE2
          clear hE2
          obtain ⟨A4, c4, g1, g2, g3, g4, g5⟩ := hL4.log
          have t0 : w4.cell? ⟨gl, 0, none⟩ = some (gp gd) := g1.cell 0
          clear g1 g2 g3 g4 g5
          have HL4 := Shut.mk hL4
          clear hL4
          go_wp2_with fail
          refine (fresh_rename HL4.out HO4.out.ok).mono ?_
          rintro e w5 ⟨rfl, hst⟩
          obtain ⟨H5, hL5, hk5, hs5⟩ := hst
          have HK5 := Shut.mk (show Kb w w5 H ∧ ∀ x ∈ H5, x ∈ H ∨ w.heap.size ≤ x from ⟨HK4.out.1.trans hk5 HK4.out.2, fun x hx => (hs5 x hx).elim (HK4.out.2 x) (fun h => .inr (Nat.le_trans HK4.out.1.size h))⟩)
          clear hk5 hs5
          have HO5 := Shut.mk (HO4.out.ren freshN manN)
          have HW := Shut.mk (show wrt3 d ss = dRen (dSync (dApp d freshN (frm (manB ss))).2.2 freshN).2 freshN manN by unfold wrt3; rw [if_neg (by rw [HE1.out]; simp), if_neg (by rw [HE2.out]; simp)])
          by_cases hE3 : (dRen (dSync (dApp d freshN (frm (manB ss))).2.2 freshN).2 freshN manN).1 = 0
          · rw [hE3]
            have HE3 := Shut.mk hE3
            clear hE3
            obtain ⟨A4, c4, g1, g2, g3, g4, g5⟩ := hL5.log
            have u1 : w5.cell? ⟨gl, 1, none⟩ = some (.slice A4 l.length c4) := g1.cell 1
            have fr : w5.frozen? ⟨gl, 1, none⟩ = false := g1.free 1
            have HAH : Shut (∀ a, A = some a → a.block ∉ H5 ∧ Z ≤ a.block) := ⟨fun a ha => ⟨fun hx => (HK5.out.2 _ hx).elim (HA2.out a ha).1 (fun h => Nat.not_le_of_lt (HA2.out a ha).2.2 h), (HA2.out a ha).2.1⟩⟩
            have HFIN := Shut.mk (g5 A c ss (rd_kept HR.out HK5.out.1 (fun a ha _ => (HA2.out a ha).1)) HCAP.out HAH.out)
            have HGL := Shut.mk hL5.gl
            clear g1 g2 g3 g4 g5 hL5
            go_wp2_with fail
            go_ret
            have hw : lWrite d l dead ss = (0, (dRen (dSync (dApp d freshN (frm (manB ss))).2.2 freshN).2 freshN manN).2, ss, dead) := by
              unfold lWrite
              rw [HW.out, if_pos HE3.out]
            rw [hw]
            have hfin := HFIN.out
            rw [HN.out.symm] at hfin
            refine ⟨rfl, blkOf A ++ H5, hfin, ?_, fun x hx => ?_⟩
            · refine (HK5.out.1.mono (fun x hx => List.mem_append_right _ hx)).trans ((Kb.refl w5 _).setCell (p := ⟨gl, 1, none⟩) (L := [gl]) (by simp) _) (fun x hx => ?_)
              obtain rfl : x = gl := by simpa using hx
              exact (HK5.out.2 _ HGL.out).imp (fun h => List.mem_append_right _ h) id
            · rcases List.mem_append.1 hx with h | h
              · exact .inl (List.mem_append_left _ h)
              · exact (HK5.out.2 x h).imp (fun h => List.mem_append_right _ h) id
          · obtain ⟨E3, hE⟩ : ∃ E3, E3 = (dRen (dSync (dApp d freshN (frm (manB ss))).2.2 freshN).2 freshN manN).1 := ⟨_, rfl⟩
            rw [← hE] at hE3 ⊢
            have HE := Shut.mk hE
            clear hE
            obtain ⟨A4, c4, g1, g2, g3, g4, g5⟩ := hL5.log
            have t0 : w5.cell? ⟨gl, 0, none⟩ = some (gp gd) := g1.cell 0
            clear g1 g2 g3 g4 g5
            have HL5 := Shut.mk hL5
            have HX := Shut.mk (show wrt3 d ss = (E3, (dRen (dSync (dApp d freshN (frm (manB ss))).2.2 freshN).2 freshN manN).2) by rw [HW.out, HE.out])
            have HOK := Shut.mk (HO5.out.ok)
            clear hL5
            go_wp2_with fail
            refine (fresh_remove HL5.out HOK.out).mono ?_
            rintro e w8 ⟨rfl, hst⟩
            obtain ⟨H8, hL8, hk8, hs8⟩ := hst
            go_wp2_with fail
            refine (note_calls hL8 _).mono ?_
            rintro e w9 ⟨rfl, hst⟩
            obtain ⟨H9, hL9, hk9, hs9⟩ := hst
            go_wp2_with fail
            refine (note_calls hL9 _).mono ?_
            rintro e w10 ⟨rfl, hst⟩
            go_wp2_with fail
            go_ret
            have hfin := LStp.trans HK5.out.1 HK5.out.2 (LStp.trans hk8 hs8 (LStp.trans hk9 hs9 hst))
            have hw : lWrite d l dead ss = (E3, (dDel (dRen (dSync (dApp d freshN (frm (manB ss))).2.2 freshN).2 freshN manN).2 freshN).2, l, (dead || decide ((dDel (dRen (dSync (dApp d freshN (frm (manB ss))).2.2 freshN).2 freshN manN).2 freshN).1 = 62)) || decide (E3 = 62)) := by
              unfold lWrite
              rw [HX.out, if_neg hE3]
            rw [hw]
            exact ⟨rfl, LStp.wider hfin HZ.out HA.out⟩
        · obtain ⟨E2, hE⟩ : ∃ E2, E2 = (dSync (dApp d freshN (frm (manB ss))).2.2 freshN).1 := ⟨_, rfl⟩
          rw [← hE] at hE2 ⊢
          have HE := Shut.mk hE
          clear hE
          obtain ⟨A4, c4, g1, g2, g3, g4, g5⟩ := hL4.log
          have t0 : w4.cell? ⟨gl, 0, none⟩ = some (gp gd) := g1.cell 0
          clear g1 g2 g3 g4 g5
          have HL4 := Shut.mk hL4
          have HX := Shut.mk (show wrt3 d ss = (E2, (dSync (dApp d freshN (frm (manB ss))).2.2 freshN).2) by unfold wrt3; rw [if_neg (by rw [HE1.out]; simp), if_pos (by rw [← HE.out]; exact hE2), HE.out])
          have HOK := Shut.mk (HO4.out.ok)
          clear hL4
          go_wp2_with fail
          refine (fresh_remove HL4.out HOK.out).mono ?_
          rintro e w8 ⟨rfl, hst⟩
          obtain ⟨H8, hL8, hk8, hs8⟩ := hst
          go_wp2_with fail
          refine (note_calls hL8 _).mono ?_
          rintro e w9 ⟨rfl, hst⟩
          obtain ⟨H9, hL9, hk9, hs9⟩ := hst
          go_wp2_with fail
          refine (note_calls hL9 _).mono ?_
          rintro e w10 ⟨rfl, hst⟩
          go_wp2_with fail
          go_ret
          have hfin := LStp.trans HK4.out.1 HK4.out.2 (LStp.trans hk8 hs8 (LStp.trans hk9 hs9 hst))
          have hw : lWrite d l dead ss = (E2, (dDel (dSync (dApp d freshN (frm (manB ss))).2.2 freshN).2 freshN).2, l, (dead || decide ((dDel (dSync (dApp d freshN (frm (manB ss))).2.2 freshN).2 freshN).1 = 62)) || decide (E2 = 62)) := by
            unfold lWrite
            rw [HX.out, if_neg hE2]
          rw [hw]
          exact ⟨rfl, LStp.wider hfin HZ.out HA.out⟩
      · obtain ⟨E1, hE⟩ : ∃ E1, E1 = (dApp d freshN (frm (manB ss))).1 := ⟨_, rfl⟩
        rw [← hE] at hE1 ⊢
        have HE := Shut.mk hE
        clear hE
        obtain ⟨A4, c4, g1, g2, g3, g4, g5⟩ := hL3.log
        have t0 : w3.cell? ⟨gl, 0, none⟩ = some (gp gd) := g1.cell 0
        clear g1 g2 g3 g4 g5
        have HL3 := Shut.mk hL3
        have HX := Shut.mk (show wrt3 d ss = (E1, (dApp d freshN (frm (manB ss))).2.2) by unfold wrt3; rw [if_pos (by rw [← HE.out]; exact hE1), ← HE.out])
        have HOK := Shut.mk (HO3.out.ok)
        clear hL3
        go_wp2_with fail
        refine (fresh_remove HL3.out HOK.out).mono ?_
        rintro e w8 ⟨rfl, hst⟩
        obtain ⟨H8, hL8, hk8, hs8⟩ := hst
        go_wp2_with fail
        refine (note_calls hL8 _).mono ?_
        rintro e w9 ⟨rfl, hst⟩
        obtain ⟨H9, hL9, hk9, hs9⟩ := hst
        go_wp2_with fail
        refine (note_calls hL9 _).mono ?_
        rintro e w10 ⟨rfl, hst⟩
        go_wp2_with fail
        go_ret
        have hfin := LStp.trans HK3.out.1 HK3.out.2 (LStp.trans hk8 hs8 (LStp.trans hk9 hs9 hst))
        have hw : lWrite d l dead ss = (E1, (dDel (dApp d freshN (frm (manB ss))).2.2 freshN).2, l, (dead || decide ((dDel (dApp d freshN (frm (manB ss))).2.2 freshN).1 = 62)) || decide (E1 = 62)) := by
          unfold lWrite
          rw [HX.out, if_neg hE1]
        rw [hw]
        exact ⟨rfl, LStp.wider hfin HZ.out HA.out⟩
end
end Go.Proofs.YtmlfeljhojmbbaaGreatDoor

namespace Go.Proofs.YtmlfeljhojmbbaaGreatDoor
open Go.RowKit Go.Maps Go.Sort
set_option linter.unusedSimpArgs false
set_option linter.unusedVariables false
set_option maxRecDepth 100000

abbrev Key7 (d : Ds) : Prop := d.S.Pairwise fun a b => a.1 ≠ b.1
theorem LD.keys {w : World} {gl gd Z : Nat} {H : List Nat} {d : Ds} {l : List Nat} {dead : Bool} (h : LD w gl gd Z H d l dead) : Key7 d := by
  obtain ⟨F, hD, _⟩ := h.disk
  exact dd_keys hD
theorem look_of_mem {S : List Fl} (hk : S.Pairwise fun a b => a.1 ≠ b.1) {x : Fl} (hx : x ∈ S) : look S x.1 = some x.2 := by
  induction S with
  | nil => cases hx
  | cons y r ih =>
    rw [List.pairwise_cons] at hk
    rw [look_cons]
    rcases List.mem_cons.1 hx with rfl | hx
    · rw [if_pos rfl]
    · rw [if_neg (hk.1 x hx)]
      exact ih hk.2 hx
/-! keys stay -/
theorem keys_setF {S : List Fl} (h : S.Pairwise fun a b => a.1 ≠ b.1) (k b : List UInt8) (sy : Nat) : (setF S k b sy).Pairwise fun a b => a.1 ≠ b.1 := by
  have : ∀ x : Fl, (if x.1 == k then (k, b, sy) else x : Fl).1 = x.1 := fun x => by
    by_cases hx : x.1 = k <;> simp [hx]
  unfold setF
  rw [List.pairwise_map]
  exact h.imp fun h => by rw [this, this]; exact h
theorem keys_delF {S : List Fl} (h : S.Pairwise fun a b => a.1 ≠ b.1) (k : List UInt8) : (delF S k).Pairwise fun a b => a.1 ≠ b.1 := h.filter _
theorem keys_snoc {S : List Fl} (h : S.Pairwise fun a b => a.1 ≠ b.1) {x : Fl} (hx : look S x.1 = none) : (S ++ [x]).Pairwise fun a b => a.1 ≠ b.1 := by
  rw [List.pairwise_append]
  refine ⟨h, List.pairwise_singleton _ _, fun a ha b hb => ?_⟩
  obtain rfl : b = x := by simpa using hb
  intro e
  have := look_of_mem h ha
  rw [e, hx] at this
  cases this
theorem keys_addF {S : List Fl} (h : S.Pairwise fun a b => a.1 ≠ b.1) (k b : List UInt8) : (addF S k b).Pairwise fun a b => a.1 ≠ b.1 := by
  unfold addF
  cases hl : look S k with
  | none => exact keys_snoc h hl
  | some p =>
    obtain ⟨b0, sy⟩ := p
    exact keys_setF h k (b0 ++ b) sy
theorem keys_renF {S : List Fl} (h : S.Pairwise fun a b => a.1 ≠ b.1) (a z b : List UInt8) (sy : Nat) : (renF S a z b sy).Pairwise fun a b => a.1 ≠ b.1 := by
  unfold renF
  refine keys_snoc (keys_delF (keys_delF h a) z) ?_
  rw [look_delF, if_pos rfl]
theorem dApp_keys {d : Ds} (h : Key7 d) (s b : List UInt8) : Key7 (dApp d s b).2.2 := by
  unfold dApp
  split
  · exact h
  · split
    · exact h
    · exact keys_addF h _ _
theorem dRen_keys {d : Ds} (h : Key7 d) (a z : List UInt8) : Key7 (dRen d a z).2 := by
  unfold dRen
  split
  · exact h
  · split
    · exact h
    · exact keys_renF h _ _ _ _
/-! ### a manifest's write -/
end Go.Proofs.YtmlfeljhojmbbaaGreatDoor

namespace Go.Proofs.YtmlfeljhojmbbaaGreatDoor
open Go.RowKit Go.Maps Go.Shelf
set_option linter.unusedSimpArgs false
set_option linter.unusedVariables false
set_option maxRecDepth 100000
attribute [local go_sem] Oper.semAt_some

theorem info_i64b : (Tryz.prog.info? 3).map (fun i => (i.zero, i.size, i.bytes)) = some (some (.int .i64 0), 1, 8) := by kernel_rfl
theorem wpListIn_append7 {F : Fence} {f : Nat} {P : Program} (w : World) {ops : Array Oper} {rest : List Oper} {o : Oper} {a : Act} {Q : Exit → Act → World → Prop} (hgd : o.guard = none) (s x : Operand) (t : TypeId)
    (ho : o.op = .call { callee := .builtin .append, args := #[s, x], argTypes := #[t, t] })
    (e : TypeId) (i : TypeInfo) (z : Value) (size bytes : Nat) (ht : P.underlying t = some (.slice e)) (hi : P.info? e = some i) (hz : i.zero = some z)
    (hsize : i.size = size) (hby : i.bytes = bytes) (hzs : z.cells.size = size) (hsz : 0 < size)
    (v : Value) (n : Nat) (xs : List Value) (hs : a.eval s = v) (hown : Own w e size v n xs)
    (A : Option Addr) (m c : Nat) (news : List Value) (hx : a.eval x = .slice A m c) (hl : news.length = m * size) (hr : Rd w A news) (h1 : ∀ u ∈ news, u.oneCell' = true)
    (h63 : n + m ≤ maxLen) (hbytes : (n + m) * bytes ≤ 140737488355328)
    (h : ∀ v' w', Appended w w' e size v v' n m xs news → wpListIn F f P ops Q rest (a.put o.dst v') w') : wpListIn F f P ops Q (o :: rest) a w := by
  refine wpListIn_plain hgd fun K hK' => ?_
  obtain ⟨v', w', hrun, hp⟩ := run_append (P := P) w t o.type e i z size bytes ht hi hz hsize hby hzs hsz v n xs hown A m c news hl hr h1 h63 hbytes
  unfold Oper.wpIn
  refine ⟨?_, ?_⟩
  · simp [Oper.about, ho, resolve, Target.leads, Sem.run_pure]
  · rw [Oper.semAt_plain F _ _ (by rw [ho]; intro c hc'; cases hc')]
    simp [execOp, ho, resolve, invoke, builtin, hs, hx, hrun, Result.andThen]
    exact hK' _ _ (h v' w' hp)
theorem own_cells {w : World} {e size : Nat} {v : Value} {n : Nat} {xs : List Value} (h : Own w e size v n xs) {q : Nat} (hq : v.ownBlock = some q) : ∃ cs t p, w.heap[q]? = some (.cells cs t p) := by
  rcases h.2 with ⟨rfl, _⟩ | ⟨g, cap, cur, rfl, hb, _⟩
  · cases hq
  · cases hq
    exact ⟨_, _, _, hb⟩
theorem wraps_u64b (n : Int) (h0 : 0 ≤ n) (h1 : n < 2 ^ 64) : IntKind.u64.wrap n = n := by
  simp only [IntKind.wrap, IntKind.bits, IntKind.signed]
  simpa using Int.emod_eq_of_lt h0 h1
theorem or_u64b (x y : Nat) (hx : x % 256 = 0) (hx₁ : x < 18446744073709551616) (hy : y < 256) : bits .or .u64 (x : Int) (y : Int) = ((x + y : Nat) : Int) := by
  rw [bits_join .u64 64 (by decide) wraps_u64b 8 (x : Int) (y : Int) (by omega) (by omega) (by omega) (by omega) (by omega) (by omega)]
  omega
theorem results_cell {P : Program} {fn : Func} {t : Tmp} {ty : TypeId} (h : fn.results = #[.cell t ty]) (tmps : Array Value) (w : World) (a : Addr) (v : Value) (ht : tmps.getD t undef = .pointer (some a)) (hl : (loadVar ty a).run P w = .ok v w) :
    (results fn tmps).run P w = .ok v w := by
  have ht' : tmps[t]?.getD undef = .pointer (some a) := by simpa using ht
  simp [results, h, asAddr, ht', hl]
theorem keepsFrom_kb {W W' : World} {L : List Nat} (B : Nat) (hk : Kb W W' L) (hL : ∀ x ∈ L, ∃ cs t p, W.heap[x]? = some (.cells cs t p)) : KeepsFrom B W W' :=
  ⟨hk.size, fun k o hB hk' hc => by
    by_cases h : k ∈ L
    · obtain ⟨cs, t, p, h2⟩ := hL k h
      rw [h2] at hk'
      cases hk'
      cases hc
    · exact (hk.block k (Array.getElem?_eq_some_iff.1 hk').1 h).trans hk'⟩
end Go.Proofs.YtmlfeljhojmbbaaGreatDoor

namespace Go.Proofs.YtmlfeljhojmbbaaGreatDoor
open Go.RowKit Go.Maps Go.Shelf
set_option linter.unusedSimpArgs false
set_option linter.unusedVariables false
set_option maxRecDepth 100000
attribute [local go_sem] Oper.semAt_some

/-- so many bytes of a chunk of eight, as a number -/
def pv (r : List UInt8) (X : Nat) : Nat → Nat
  | 0 => 0
  | j + 1 => pv r X j * 256 + (r.getD (8 * X + j) 0).toNat
@[irreducible] def val8 (r : List UInt8) (X : Nat) : Nat := pv r X 8
theorem val8_eq (r : List UInt8) (X : Nat) : val8 r X = pv r X 8 := by unfold val8; rfl
theorem pv_lt (r : List UInt8) (X : Nat) : ∀ j, pv r X j < 256 ^ j
  | 0 => by simp [pv]
  | j + 1 => by
    have h1 := pv_lt r X j
    have h2 := (r.getD (8 * X + j) 0).toNat_lt
    rw [pv, Nat.pow_succ]
    omega
def vals (r : List UInt8) : List Nat := (List.range (r.length / 8)).map (val8 r)
/-- numbers that a manifest may have -/
def goodL (l : List Nat) : Prop := l.Pairwise (· < ·) ∧ ∀ n ∈ l, 1 ≤ n ∧ n ≤ 99999999
instance (l : List Nat) : Decidable (goodL l) := by unfold goodL; exact inferInstance
theorem goodL_take {l : List Nat} (h : goodL l) (n : Nat) : goodL (l.take n) := ⟨h.1.sublist (List.take_sublist _ _), fun x hx => h.2 x (List.mem_of_mem_take hx)⟩
/-- the segments of a manifest -/
def prsL (b : List UInt8) : Option (List Nat) :=
  match fstL b with
  | none => none
  | some r => if b.length = 40 + r.length ∧ r.length % 8 = 0 ∧ goodL (vals r) then some (vals r) else none
theorem prsL_some {b : List UInt8} {ss : List Nat} (h : prsL b = some ss) : goodL ss ∧ ss ≠ [] ∧ ss.length ≤ 500 := by
  unfold prsL at h
  split at h
  · cases h
  · rename_i r hr
    split at h
    · rename_i hc
      injection h with h
      subst h
      have hk := (fstL_some hr).1
      have h1 := hk.1
      have h2 := hk.2
      have hl : (vals r).length = r.length / 8 := by simp [vals]
      refine ⟨hc.2.2, fun e => ?_, by omega⟩
      rw [e] at hl
      simp at hl
      omega
    · cases h
theorem shl_any (P y : Nat) (hP : P < 72057594037927936) (hy : y < 256) : bits .or .u64 ((P : Int) * 256) (y : Int) = ((P * 256 + y : Nat) : Int) := by
  have e1 : (P : Int) * 256 = ((P * 256 : Nat) : Int) := by push_cast; rfl
  rw [e1, or_u64b _ _ (by omega) (by omega) hy]
/-- what a round of the chunks keeps -/
structure PJ (w : World) (GR GL BS BN g c2 K : Nat) (R : List UInt8) (pre : List (Ix8 K)) (W : World) : Prop where
  st : ∃ A c', Boxed W GL 40 (.slice A pre.length c') ∧ Own W 3 1 (.slice A pre.length c') pre.length (its (pre.map fun x => val8 R x.1)) ∧ ∀ q, (Value.slice A pre.length c').ownBlock = some q → BN < q
  gr : Boxed W GR 40 (.slice none 0 0)
  bs : Boxed W BS 27 (.slice (some ⟨g, 0, none⟩) (8 * K) c2)
  bn : Boxed W BN 3 (.int .i64 8)
  own : Own W 5 1 (.slice (some ⟨g, 0, none⟩) (8 * K) c2) (8 * K) (bys R)
  below : Below w.heap.size w W
  good : goodL (pre.map fun x => val8 R x.1)
theorem PJ.grown {w : World} {GR GL BS BN g c2 K B : Nat} {R : List UInt8} {pre : List (Ix8 K)} {W W' : World} {row : Option Nat} (h : PJ w GR GL BS BN g c2 K R pre W) (hg : W.grownBy W' row) (hB : w.heap.size ≤ B)
    (hr : ∀ r, row = some r → B ≤ r ∧ ∃ o : Obj, W.heap[r]? = some o ∧ o.isCells = false) : PJ w GR GL BS BN g c2 K R pre W' := by
  have hx : ∀ {q : Nat} {cs t p}, W.heap[q]? = some (.cells cs t p) → some q ≠ row := by
    intro q cs t p hq e
    obtain ⟨_, o, ho, hc⟩ := hr q e.symm
    rw [hq] at ho
    cases ho
    cases hc
  obtain ⟨A, c', a1, a2, a3⟩ := h.st
  refine ⟨⟨A, c', a1.kept hg (hx a1), a2.keep fun q hq => ?_, a3⟩, h.gr.kept hg (hx h.gr), h.bs.kept hg (hx h.bs), h.bn.kept hg (hx h.bn), h.own.keep fun q hq => ?_, h.below.grown hg h.below.size fun r e => Nat.le_trans hB (hr r e).1, h.good⟩
  · obtain ⟨cs, t, p, hc⟩ := own_cells a2 hq
    exact hg.block q (a2.block_lt hq) (hx hc)
  · obtain ⟨cs, t, p, hc⟩ := own_cells h.own hq
    exact hg.block q (h.own.block_lt hq) (hx hc)
/-- what a round that leaves keeps -/
structure PX (w : World) (GR K : Nat) (R : List UInt8) (pre : List (Ix8 K)) (W : World) : Prop where
  gr : Boxed W GR 40 (.slice none 0 0)
  below : Below w.heap.size w W
  len : pre.length ≤ K
  bad : upTo pre → ¬ goodL ((List.range pre.length).map (val8 R))
theorem PX.grown {w : World} {GR K B : Nat} {R : List UInt8} {pre : List (Ix8 K)} {W W' : World} {row : Option Nat} (h : PX w GR K R pre W) (hg : W.grownBy W' row) (hB : w.heap.size ≤ B)
    (hr : ∀ r, row = some r → B ≤ r ∧ ∃ o : Obj, W.heap[r]? = some o ∧ o.isCells = false) : PX w GR K R pre W' := by
  have hx : ∀ {q : Nat} {cs t p}, W.heap[q]? = some (.cells cs t p) → some q ≠ row := by
    intro q cs t p hq e
    obtain ⟨_, o, ho, hc⟩ := hr q e.symm
    rw [hq] at ho
    cases ho
    cases hc
  exact ⟨h.gr.kept hg (hx h.gr), h.below.grown hg h.below.size fun r e => Nat.le_trans hB (hr r e).1, h.len, h.bad⟩
theorem map_upTo {K : Nat} {pre : List (Ix8 K)} (h : upTo pre) (f : Nat → Nat) : (pre.map fun x => f x.1) = (List.range pre.length).map f := by
  have e : (pre.map fun x => f x.1) = (pre.map (·.1)).map f := by rw [List.map_map]; rfl
  rw [e, (show pre.map (·.1) = List.range pre.length from h)]
theorem up_leP {l : List Nat} (h : l.Pairwise (· < ·)) (hl : l ≠ []) : ∀ n ∈ l, n ≤ l.getLast hl := by
  intro n hn
  obtain ⟨i, hi, rfl⟩ := List.mem_iff_getElem.1 hn
  rw [List.getLast_eq_getElem]
  by_cases hlt : i < l.length - 1
  · exact Nat.le_of_lt (List.pairwise_iff_getElem.1 h i (l.length - 1) hi (by omega) hlt)
  · have : i = l.length - 1 := by omega
    subst this
    exact Nat.le_refl _
theorem last_map8 {K : Nat} (f : Nat → Nat) (pre : List (Ix8 K)) (hne : pre ≠ []) (hl : (pre.map fun x => f x.1) ≠ []) : (pre.map fun x => f x.1).getLast hl = f (pre.getLast hne).1 := by
  rw [List.getLast_map]
theorem its_last8 {K : Nat} (f : Nat → Nat) (pre : List (Ix8 K)) (hne : pre ≠ []) (PL : Nat) (h : PL = pre.length) : (its (pre.map fun x => f x.1))[PL - 1]? = some (.int .i64 ((f (pre.getLast hne).1 : Nat) : Int)) := by
  have hp : 0 < pre.length := List.length_pos_iff.2 hne
  rw [its_get (by rw [List.length_map, h]; omega), List.getElem_map]
  congr 4
  rw [List.getLast_eq_getElem]
  congr 2
  rw [h]
theorem good_at8 {K : Nat} (f : Nat → Nat) (pre : List (Ix8 K)) (h : goodL (pre.map fun x => f x.1)) (x : Ix8 K) (hx : x ∈ pre) : f x.1 ≤ 99999999 := (h.2 _ (List.mem_map_of_mem (f := fun x : Ix8 K => f x.1) hx)).2
theorem undef_bool {b : Bool} (h : some undef = some (Value.bool b)) : False := by
  injection h with h
  cases h
theorem goodL_snoc {l : List Nat} (h : goodL l) {n : Nat} (h1 : 1 ≤ n) (h2 : n ≤ 99999999) (h3 : ∀ hl : l ≠ [], l.getLast hl < n) : goodL (l ++ [n]) := by
  refine ⟨List.pairwise_append.2 ⟨h.1, List.pairwise_singleton _ _, fun a ha b hb => ?_⟩, fun x hx => ?_⟩
  · obtain rfl : b = n := by simpa using hb
    have hl : l ≠ [] := List.ne_nil_of_mem ha
    have := up_leP h.1 hl a ha
    have := h3 hl
    omega
  · rcases List.mem_append.1 hx with hx | hx
    · exact h.2 x hx
    · obtain rfl : x = n := by simpa using hx
      exact ⟨h1, h2⟩
theorem goodL_last {l : List Nat} {n : Nat} (h : goodL (l ++ [n])) : 1 ≤ n ∧ n ≤ 99999999 ∧ ∀ hl : l ≠ [], l.getLast hl < n :=
  ⟨(h.2 n (by simp)).1, (h.2 n (by simp)).2, fun hl => (List.pairwise_append.1 h.1).2.2 _ (List.getLast_mem hl) n (by simp)⟩
set_option maxHeartbeats 4000000 in
theorem parse_loop (A : Option Addr) (c K : Nat) (b R : List UInt8) (w : World) (hr : RdB w A b) (hf : fstL b = some R) (hN : b.length = 40 + 8 * K) (hR : R.length = 8 * K) (h1 : 1 ≤ K) (h2 : K ≤ 500) (hc : 40 + 8 * K ≤ c)
    (hk : Rd w (some ⟨1, 0, none⟩) (wds Psha.ks)) (hbg : Rd w (some ⟨0, 0, none⟩) (wds Psha.iv.list)) :
    Calls Tryz.prog 43 #[.slice A (40 + 8 * K) c] w fun e w' => Below w.heap.size w w' ∧ ((¬ goodL (vals R) ∧ e = .returned (.slice none 0 0)) ∨ (goodL (vals R) ∧ ∃ g c', e = .returned (.slice (some ⟨g, 0, none⟩) K c') ∧ Own w' 3 1 (.slice (some ⟨g, 0, none⟩) K c') K (its (vals R)) ∧ w.heap.size ≤ g)) := by
  have hvl : (vals R) = (List.range K).map (val8 R) := by
    unfold vals
    rw [hR, show 8 * K / 8 = K by omega]
  have hb1 : Below w.heap.size w (w.alloc (.cells #[.slice none 0 0] 40)) := (Below.refl _ w).alloc (Nat.le_refl _) _
  have HFI : Shut (Calls Tryz.prog 83 #[.slice A (40 + 8 * K) c] (w.alloc (.cells #[.slice none 0 0] 40)) fun e w2 => ∃ g c2, e = .returned (.slice (some ⟨g, 0, none⟩) (8 * K) c2) ∧ Own w2 5 1 (.slice (some ⟨g, 0, none⟩) (8 * K) c2) (8 * K) (bys R) ∧ Below (w.heap.size + 1) (w.alloc (.cells #[.slice none 0 0] 40)) w2 ∧ w.heap.size + 1 ≤ g) := ⟨by
    refine (first_calls A c (40 + 8 * K) b _ (hr.keep hb1) hN hc (by omega) (hk.keep hb1) (hbg.keep hb1)).mono ?_
    rintro e w2 ⟨hb2, ⟨hF, _⟩ | ⟨r, g, c2, hF, rfl, ho2, hg2⟩⟩
    · rw [hf] at hF
      cases hF
    · rw [hf] at hF
      injection hF with hF
      subst hF
      rw [hR] at ho2 ⊢
      rw [World.size_alloc] at hb2 hg2
      exact ⟨g, c2, rfl, ho2, hb2, hg2⟩⟩
  have HRL := Shut.mk hR
  have HVL := Shut.mk hvl
  clear hr hk hbg hN hR hf hvl
  refine (callsIn_wide (n := 6)).1 ?_
  have hff : Fence.wide.fn 83 := trivial
  have hfb : Fence.wide.fn 84 := trivial
  refine callsIn_of_wp_marks Tryz.func43 rfl trivial ?_ rfl
  simp only [Tryz.ntmps43, List.size_toArray, List.length_cons, List.length_nil, Nat.reduceAdd, Nat.reduceSub, Array.replicate_succ, Array.replicate_zero, List.push_toArray, List.append_toArray, List.nil_append, List.cons_append]
  have hnil := fun (W : World) (g n c : Nat) => Lib.run_eql_slice_nil (P := Tryz.prog) W 27 5 (some ⟨g, 0, none⟩) n c 0 0 Tryz.underlying27
  gi_wp2_with (first
    | (gi_at_call 83; refine (callsIn_wide.2 HFI.out).mono ?_; rintro e w2 ⟨g, c2, rfl, ho2, hb2, hg2⟩)
    | (gi_at_call 84; refine (chunk_in _ _ _ _ _).mono ?_; rintro e w' ⟨rfl, rfl⟩))
  have hL0 : Below w.heap.size w w2 := (Below.trans hb1 (hb2.mono (by omega)))
  have hsz2 := hb2.size
  rw [World.size_alloc] at hsz2
  have hglt := ho2.block_lt (g := g) rfl
  obtain ⟨GR, hGR⟩ : ∃ GR, GR = w.heap.size := ⟨_, rfl⟩
  obtain ⟨GL, hGL⟩ : ∃ GL, GL = w2.heap.size := ⟨_, rfl⟩
  obtain ⟨BS, hBS⟩ : ∃ BS, BS = GL + 1 := ⟨_, rfl⟩
  obtain ⟨BN, hBN⟩ : ∃ BN, BN = GL + 1 + 1 := ⟨_, rfl⟩
  have r0 : Boxed w2 GR 40 (.slice none 0 0) := by
    rw [hGR]
    exact (hb2.block _ (by omega)).trans (Boxed.new w 40 (.slice none 0 0))
  have hPI : PJ w GR GL BS BN g c2 K R [] (((w2.alloc (.cells #[.slice none 0 0] 40)).alloc (.cells #[.slice (some ⟨g, 0, none⟩) (8 * K) c2] 27)).alloc (.cells #[.int .i64 8] 3)) := by
    refine ⟨⟨none, 0, ?_, Own.nil _ _ _, fun q hq => by cases hq⟩, ((r0.alloc _).alloc _).alloc _, ?_, ?_, ((ho2.alloc _).alloc _).alloc _, ((hL0.alloc (by omega) _).alloc (by simp; omega) _).alloc (by simp; omega) _, ⟨List.Pairwise.nil, fun n hn => by cases hn⟩⟩
    · rw [hGL]
      exact ((Boxed.new w2 _ _).alloc _).alloc _
    · have := (Boxed.new (w2.alloc (.cells #[.slice none 0 0] 40)) 27 (.slice (some ⟨g, 0, none⟩) (8 * K) c2)).alloc (.cells #[.int .i64 8] 3)
      rw [World.size_alloc] at this
      rw [hBS, hGL]
      exact this
    · have := Boxed.new ((w2.alloc (.cells #[.slice none 0 0] 40)).alloc (.cells #[.slice (some ⟨g, 0, none⟩) (8 * K) c2] 27)) 3 (.int .i64 8)
      rw [World.size_alloc, World.size_alloc] at this
      rw [hBN, hGL]
      exact this
  obtain ⟨W0, hW0⟩ : ∃ W0, ((w2.alloc (.cells #[.slice none 0 0] 40)).alloc (.cells #[.slice (some ⟨g, 0, none⟩) (8 * K) c2] 27)).alloc (.cells #[.int .i64 8] 3) = W0 := ⟨_, rfl⟩
  have hszW : W0.heap.size = GL + 3 := by rw [← hW0, hGL]; simp
  rw [hW0] at hPI ⊢
  rw [← hGL] at hsz2 hglt ⊢
  rw [← hBN, ← hBS, ← hGR]
  have hcap : 8 * K ≤ c2 := by
    obtain ⟨A9, c9, e9, _, hcap, _⟩ := hPI.own.form
    cases e9
    exact hcap
  have HSTOP := chunk_stops 5 (by omega) BS BN w.heap.size ⟨g, 0, none⟩ c2 K (by omega) hcap W0 (by omega) (by omega) hPI.bs.cell hPI.bn.cell
  have hn1 : w.heap.size ≤ GR := by omega
  have hn2 : GR < GL := by omega
  have hn3 : GL < BS := by omega
  have hn4 : BS < BN := by omega
  have hn5 : g < GL := hglt
  have hn6 : GR < g := by omega
  have hn7 : w.heap.size ≤ W0.heap.size := by omega
  have hn8 : BN < W0.heap.size := by omega
  clear hW0 hBS hBN hGL hcap hL0 hsz2 hglt r0 ho2 hb2 hg2 hb1 hGR hszW HFI
  refine wpIn_rangeFunc_ownH (n := 6) rfl (by omega) (gf := 103) (lb := #[.pointer (some ⟨BS, 0, none⟩), .pointer (some ⟨BN, 0, none⟩)]) rfl trivial (enters_of Tryz.func103 (by kernel_rfl) rfl)
    HSTOP (fun h k => Kc.trans h k) (fun W l o o' hl ho h1 h2 => ?kb) (Below.refl _ _) (fun _ => rfl)
    (PJ w GR GL BS BN g c2 K R)
    (fun c pre W => c = .ret ∧ PX w GR K R pre W)
    (fun pre A B row hs hg hr => hs.grown hg hn7 hr)
    (fun c pre A B row hs hg hr => ⟨hs.1, hs.2.grown hg hn7 hr⟩)
    hPI
    (fun x a' W => a' = { tmps := #[.slice A (40 + 8 * K) c, undef, .pointer (some ⟨GR, 0, none⟩), .slice (some ⟨g, 0, none⟩) (8 * K) c2, .pointer (some ⟨GL, 0, none⟩), .slice (some ⟨g, 8 * x.1, none⟩) 8 8, undef, undef, undef,
      .slice A (40 + 8 * K) c, .slice (some ⟨g, 0, none⟩) (8 * K) c2, .slice (some ⟨g, 0, none⟩) (8 * K) c2, .bool false, .bool false, .slice A (40 + 8 * K) c, .int .i64 (40 + 8 * K), .slice (some ⟨g, 0, none⟩) (8 * K) c2, .int .i64 (8 * K), .int .i64 (40 + 8 * K), .bool false, .bool false, .bool false,
      .slice (some ⟨g, 0, none⟩) (8 * K) c2, .int .i64 (8 * K), .int .i64 0, .bool false, .bool false, .slice (some ⟨g, 0, none⟩) (8 * K) c2, .func (.func 103) #[] #[.pointer (some ⟨BS, 0, none⟩), .pointer (some ⟨BN, 0, none⟩)], .slice (some ⟨g, 8 * x.1, none⟩) 8 8,
      undef, undef, undef, undef, undef, undef, undef, undef, undef, undef, undef, undef, undef, undef, undef, undef, undef, undef, undef, undef, undef, undef, undef, undef, undef, undef, undef, undef, undef, undef, undef, undef, undef, undef, undef, undef, undef, undef, undef, undef, undef], defers := [] })
    (fun x a' _ X Y row hs hg hr => hs)
    ?assign ?body ?done ?stop
  case kb =>
    have hg := grownBy_putObj' W l o'
    have hne : ∀ q, q < W0.heap.size → some q ≠ some l := fun q hq e => by cases e; omega
    have hlt := (Array.getElem?_eq_some_iff.1 ho).1
    exact ⟨(Below.refl _ W).grown hg (by omega) (fun k hk => by cases hk; omega), hg.block BS (by omega) (hne _ (by omega)), hg.block BN (by omega) (hne _ (by omega))⟩
  case assign =>
    rintro l pre x W Q hI hQ
    gi_wp2
    exact hQ _ _ ((KeepsOthers.refl W).from _) (Kc.refl _ _ _ _) hI rfl
  case body =>
    rintro l pre x a' W hl ⟨r, hr⟩ hI rfl hlt
    obtain ⟨i0, hi, hz0, hz1, hz2⟩ := info_parts info_i64b
    obtain ⟨X, hX⟩ := x
    dsimp only
    have hVB : Shut (val8 R X < 18446744073709551616) := ⟨by rw [val8_eq]; exact pv_lt R X 8⟩
    have HCB : Shut (∀ j, j < 8 → W.cell? ((⟨g, 8 * X, none⟩ : Addr).add j) = some (.int .u8 (((R.getD (8 * X + j) 0).toNat : Nat) : Int))) := ⟨fun j hj => by
      have h0 := hI.own.cell (8 * X + j) (u := .int .u8 ((R.getD (8 * X + j) 0).toNat : Int)) (by
        rw [bys, List.getElem?_map, List.getD_eq_getElem?_getD, List.getElem?_eq_getElem (by rw [HRL.out]; omega)]
        rfl)
      have e : (⟨g, 8 * X, none⟩ : Addr).add j = ⟨g, 8 * X + j, none⟩ := by
        unfold Addr.add
        split
        · simp [*]
        · rfl
      rw [e]
      exact h0⟩
    generalize (⟨g, 8 * X, none⟩ : Addr) = ad at HCB ⊢
    obtain ⟨A, c', b1, b2, b3⟩ := hI.st
    have HI := Shut.mk hI
    have HB2 := Shut.mk b2
    have HB3 := Shut.mk b3
    have HB1 := Shut.mk b1
    have HHR := Shut.mk hr
    clear hI b1 b2 b3 hr hnil HSTOP hPI hff hfb
    gi_wp2
    gi_loopw [6, 32] (fun u i wr => ∃ j : Nat, j ≤ 8 ∧ u = .int .u64 ((pv R X j : Nat) : Int) ∧ i = .int .i64 (j : Int) ∧ wr = W) (fun _ i _ => 8 - (intOf i).toNat)
    case atStart => exact ⟨0, by omega, rfl, rfl, rfl⟩
    case round =>
      obtain ⟨j, hj, rfl, rfl, rfl⟩ := hrel
      by_cases hj8 : j < 8
      · have cj := HCB.out j hj8
        have hjI : (j : Int) < 8 := by omega
        obtain ⟨Y, hY⟩ : ∃ Y, Y = (R.getD (8 * X + j) 0).toNat := ⟨_, rfl⟩
        obtain ⟨P, hP⟩ : ∃ P, P = pv R X j := ⟨_, rfl⟩
        have hYb : Y < 256 := by rw [hY]; exact (R.getD (8 * X + j) 0).toNat_lt
        have hPb : P < 72057594037927936 := by
          rw [hP]
          refine Nat.lt_of_lt_of_le (pv_lt R X j) ?_
          have : 256 ^ j ≤ 256 ^ 7 := Nat.pow_le_pow_right (by omega) (by omega)
          omega
        have HNX : Shut (pv R X (j + 1) = P * 256 + Y) := ⟨by rw [hP, hY]; rfl⟩
        have HSH := Shut.mk (shl_any P Y hPb hYb)
        rw [← hY] at cj
        rw [← hP]
        clear hY hP
        gi_wp2
        go_roundw
        case rel =>
          exact ⟨j + 1, by omega, by rw [HNX.out]; first | exact congrArg _ HSH.out | (rw [HSH.out]), by go_num, by trivial⟩
        case measure => first | (simp [intOf]; done) | (simp [intOf]; omega)
      · obtain rfl : j = 8 := by omega
        obtain ⟨N, hN⟩ : ∃ N, N = pv R X 8 := ⟨_, rfl⟩
        have HXN : Shut (N = val8 R X) := ⟨by rw [val8_eq]; exact hN⟩
        have hNb : N < 18446744073709551616 := by rw [HXN.out]; exact hVB.out
        rw [← hN]
        clear hN
        obtain ⟨PL, hPL⟩ : ∃ PL, PL = pre.length := ⟨_, rfl⟩
        rw [← hPL] at HB1 HB2 HB3 hlt
        have HPL := Shut.mk hPL
        have cL := HB1.out.cell
        have fL := HB1.out.frozen
        have HGR := Shut.mk HI.out.gr
        have hfin : Shut (goodL ((pre ++ [(⟨X, hX⟩ : Ix8 K)]).map fun x => val8 R x.1) → ∀ (v6 : Value) (w5 w6 : World) (o : Obj), w5 = wr.alloc o → Appended w5 w6 3 1 (.slice A PL c') v6 PL 1 (its (pre.map fun x => val8 R x.1)) [.int .i64 (N : Int)] →
            KeepsFrom W0.heap.size wr (w6.setCell ⟨GL, 0, none⟩ v6) ∧ Kc w.heap.size BS BN wr (w6.setCell ⟨GL, 0, none⟩ v6) ∧ PJ w GR GL BS BN g c2 K R (pre ++ [⟨X, hX⟩]) (w6.setCell ⟨GL, 0, none⟩ v6)) := ⟨by
          intro hgood v6 w5 w6 o ho5 hap
          subst ho5
          obtain ⟨g6, c6, rfl, _, _⟩ := hap.own.head (by omega)
          have hg1 := hap.grown
          have hk6 : Kb wr w6 (Value.slice A PL c').ownBlock.toList := ((Kb.refl wr _).alloc o).trans (Kb.of_grown hg1 (L := (Value.slice A PL c').ownBlock.toList) (fun r hr => by rw [hr]; simp)) (fun x hx => .inl hx)
          have hown : ∀ x ∈ (Value.slice A PL c').ownBlock.toList, (Value.slice A PL c').ownBlock = some x := fun x hx => by simpa using hx
          have hBx : ∀ x ∈ (Value.slice A PL c').ownBlock.toList, BN < x := fun x hx => HB3.out x (hown x hx)
          have hk7 : Kb wr (w6.setCell ⟨GL, 0, none⟩ (.slice (some ⟨g6, 0, none⟩) (PL + 1) c6)) (GL :: (Value.slice A PL c').ownBlock.toList) := (hk6.mono (fun x hx => List.mem_cons_of_mem _ hx)).setCell (by simp) _
          have hne : ∀ q, q < BS → q ≠ GL → q ∉ GL :: (Value.slice A PL c').ownBlock.toList := fun q h1 h2 hx => by
            rcases List.mem_cons.1 hx with h | h
            · exact h2 h
            · have := hBx q h
              omega
          have hne2 : ∀ q, q ≤ BN → q ≠ GL → q ∉ GL :: (Value.slice A PL c').ownBlock.toList := fun q h1 h2 hx => by
            rcases List.mem_cons.1 hx with h | h
            · exact h2 h
            · have := hBx q h
              omega
          have hPI' := HI.out
          have hGLlt := HB1.out.lt
          have hbelow := hk7.below hPI'.below (fun b hb => by
            rcases List.mem_cons.1 hb with h | h
            · omega
            · have := hBx b h
              omega) hPI'.below.size
          have hkeep : ∀ q, q ≤ BN → q ≠ GL → q < wr.heap.size → (w6.setCell ⟨GL, 0, none⟩ (.slice (some ⟨g6, 0, none⟩) (PL + 1) c6)).heap[q]? = wr.heap[q]? := fun q h1 h2 h3 => hk7.block q h3 (hne2 q h1 h2)
          refine ⟨keepsFrom_kb _ hk7 (fun x hx => ?_), ⟨hk7.below (Below.refl _ _) (fun b hb => ?_) hPI'.below.size, hkeep BS (by omega) (by omega) hPI'.bs.lt, hkeep BN (by omega) (by omega) hPI'.bn.lt⟩, ⟨⟨some ⟨g6, 0, none⟩, c6, ?_, ?_, ?_⟩, (hkeep GR (by omega) (by omega) hPI'.gr.lt).trans hPI'.gr, (hkeep BS (by omega) (by omega) hPI'.bs.lt).trans hPI'.bs, (hkeep BN (by omega) (by omega) hPI'.bn.lt).trans hPI'.bn, hPI'.own.keep (fun q hq => hkeep q (by cases hq; show g ≤ BN; omega) (by cases hq; show g ≠ GL; omega) (hPI'.own.block_lt hq)), hbelow, hgood⟩⟩
          · rcases List.mem_cons.1 hx with h | h
            · rw [h]
              exact ⟨_, _, _, HB1.out⟩
            · exact own_cells HB2.out (hown x h)
          · rcases List.mem_cons.1 hb with h | h
            · omega
            · have := hBx b h
              omega
          · rw [List.length_append, ← HPL.out]
            refine Boxed.set _ ((HB1.out.alloc o).kept hg1 (fun e => ?_))
            have := HB3.out GL e.symm
            omega
          · rw [List.length_append, ← HPL.out, List.map_append]
            have h6 := hap.own
            have h7 : Own (w6.setCell ⟨GL, 0, none⟩ (.slice (some ⟨g6, 0, none⟩) (PL + 1) c6)) 3 1 (.slice (some ⟨g6, 0, none⟩) (PL + 1) c6) (PL + 1) (its (pre.map fun x => val8 R x.1) ++ [.int .i64 (N : Int)]) := h6.keep (fun q hq => Below.heap_setCell w6 ⟨GL, 0, none⟩ _ q (fun e => by
              rcases hap.lies with h | h
              · rw [hq] at h
                have := HB3.out q h.symm
                simp only at e
                omega
              · rw [hq] at h
                injection h with h
                rw [World.size_alloc] at h
                simp only at e
                omega))
            refine h7.cast rfl ?_
            rw [its, its, List.map_append, HXN.out]
            rfl
          · intro q hq
            rw [List.length_append, ← HPL.out] at hq
            rcases hap.lies with h | h
            · rw [show (Value.slice (some ⟨g6, 0, none⟩) (PL + 1) c6).ownBlock = some q from hq] at h
              exact HB3.out q h.symm
            · rw [show (Value.slice (some ⟨g6, 0, none⟩) (PL + 1) c6).ownBlock = some q from hq] at h
              injection h with h
              rw [World.size_alloc] at h
              have := hPI'.bn.lt
              omega⟩
        have HC6 : Shut (∀ (o : Obj) (w6 : World) (v6 : Value), Appended (wr.alloc o) w6 3 1 (.slice A PL c') v6 PL 1 (its (pre.map fun x => val8 R x.1)) [.int .i64 (N : Int)] → w6.cell? ⟨GL, 0, none⟩ = some (.slice A PL c') ∧ w6.frozen? ⟨GL, 0, none⟩ = false) := ⟨by
          intro o w6 v6 hap
          have hB6 := (HB1.out.alloc o).kept hap.grown (fun e => by have := HB3.out GL e.symm; omega)
          exact ⟨hB6.cell, hB6.frozen⟩⟩
        have HLT := Shut.mk hlt
        have HGL := Shut.mk HI.out.good
        have HBAD : Shut (¬ goodL ((pre ++ [(⟨X, hX⟩ : Ix8 K)]).map fun x => val8 R x.1) → KeepsFrom W0.heap.size wr (wr.setCell ⟨GR, 0, none⟩ (.slice none 0 0)) ∧ PX w GR K R (pre ++ [⟨X, hX⟩]) (wr.setCell ⟨GR, 0, none⟩ (.slice none 0 0))) := ⟨fun hb => by
          have hkb : Kb wr (wr.setCell ⟨GR, 0, none⟩ (.slice none 0 0)) [GR] := (Kb.refl wr _).setCell (p := ⟨GR, 0, none⟩) (L := [GR]) (by simp) _
          refine ⟨keepsFrom_kb _ hkb (fun x hx => ?_), ⟨HGR.out.set _, hkb.below HI.out.below (fun b hb => by
            rw [show b = GR by simpa using hb]
            exact hn1) HI.out.below.size, by rw [List.length_append, List.length_singleton, ← HPL.out]; exact HLT.out, fun hup => by rw [← map_upTo hup]; exact hb⟩⟩
          rw [show x = GR by simpa using hx]
          exact ⟨_, _, _, HGR.out⟩⟩
        have cR := HGR.out.cell
        have fR := HGR.out.frozen
        clear hj hj8 hlt hPL
        rcases Nat.lt_or_ge 99999999 N with hN2 | hN2
        · have hNI : (99999999 : Int) < (N : Int) := by omega
          have hbad := HBAD.out (fun hg => by
            rw [List.map_append] at hg
            have := (goodL_last hg).2.1
            have h2 := HXN.out
            simp only at this
            omega)
          have HBD := Shut.mk hbad
          clear hbad
          gi_wp2_with fail
          all_goals first
            | (exfalso; rename_i hz _; exact undef_bool hz)
            | exact ⟨HBD.out.1, rfl, HBD.out.2⟩
        rcases Nat.lt_or_ge N 1 with hN1 | hN1
        · have hNI : (N : Int) < 1 := by omega
          obtain rfl : N = 0 := by omega
          have hbad := HBAD.out (fun hg => by
            rw [List.map_append] at hg
            have := (goodL_last hg).1
            have h2 := HXN.out
            simp only at this
            omega)
          have HBD := Shut.mk hbad
          clear hbad
          gi_wp2_with fail
          all_goals first
            | (exfalso; rename_i hz _; exact undef_bool hz)
            | exact ⟨HBD.out.1, rfl, HBD.out.2⟩
        have hNI1 : (1 : Int) ≤ (N : Int) := by omega
        have hNI2 : (N : Int) ≤ 99999999 := by omega
        have HN12 : Shut (1 ≤ N ∧ N ≤ 99999999) := ⟨⟨hN1, hN2⟩⟩
        clear hN1 hN2 hNb
        by_cases hP0 : PL = 0
        · subst hP0
          have hpre : pre = [] := List.eq_nil_of_length_eq_zero HPL.out.symm
          have hgd := hfin.out (by
            rw [List.map_append]
            refine goodL_snoc HGL.out ?_ ?_ (fun hl => absurd (by rw [hpre]; rfl) hl)
            · show 1 ≤ val8 R X
              rw [← HXN.out]
              exact HN12.out.1
            · show val8 R X ≤ _
              rw [← HXN.out]
              exact HN12.out.2)
          have HGD := Shut.mk hgd
          clear hgd hpre hfin HBAD cR fR
          gi_wp2_with (gi_at_builtin; refine wpListIn_append7 _ rfl _ _ _ rfl 3 i0 _ 1 8 Tryz.underlying40 hi hz0 hz1 hz2 rfl (by decide) _ _ _ rfl (HB2.out.alloc _) _ 1 1 _ rfl (by rfl) (rd_new _ _ 3) (by simp [Value.oneCell']) (by simp only [maxLen]; omega) (by omega) ?_; intro v6 w6 hap6; obtain ⟨c6, f6⟩ := HC6.out _ _ _ hap6; obtain ⟨g6, k6, rfl, _, _⟩ := hap6.own.head (by omega))
          exact HGD.out _ _ _ _ rfl hap6
        · have hne : pre ≠ [] := fun e => hP0 (by rw [HPL.out, e]; rfl)
          obtain ⟨M, hM⟩ : ∃ M, M = val8 R (pre.getLast hne).1 := ⟨_, rfl⟩
          have HLL : Shut ((its (pre.map fun x => val8 R x.1))[PL - 1]? = some (.int .i64 ((M : Nat) : Int))) := ⟨by
            have h9 := its_last8 (val8 R) pre hne PL HPL.out
            exact h9.trans (congrArg (fun q : Nat => some (Value.int .i64 (q : Int))) hM.symm)⟩
          have HM : Shut (∀ hl : (pre.map fun x => val8 R x.1) ≠ [], (pre.map fun x => val8 R x.1).getLast hl = M) := ⟨fun hl => (last_map8 (val8 R) pre hne hl).trans hM.symm⟩
          have hM9 : M ≤ 99999999 := by
            exact Nat.le_trans (Nat.le_of_eq hM) (good_at8 (val8 R) pre HGL.out _ (List.getLast_mem hne))
          have hcell := HB2.out.form
          obtain ⟨A5, c5, e5, hr5, _⟩ := hcell
          cases e5
          obtain ⟨a5, rfl, hc5⟩ := hr5 (its_ne (fun e => hne (List.map_eq_nil_iff.1 e)))
          have cl := hc5 (PL - 1) _ HLL.out
          have hP1 : 1 ≤ PL := by omega
          have hPb : PL ≤ 500 := by have := HLT.out; omega
          have hP1I : (0 : Int) < (PL : Int) := by omega
          clear hr5 hc5 hM
          by_cases hNM : N ≤ M
          · have hNMI : (N : Int) ≤ (M : Int) := by omega
            have hbad := HBAD.out (fun hg => by
              rw [List.map_append] at hg
              have h1 := (goodL_last hg).2.2 (fun e => hne (List.map_eq_nil_iff.1 e))
              rw [HM.out] at h1
              have h2 := HXN.out
              simp only at h1
              omega)
            have HBD := Shut.mk hbad
            clear hbad
            gi_wp2_with fail
            all_goals first
              | (exfalso; rename_i hz _; exact undef_bool hz)
              | exact ⟨HBD.out.1, rfl, HBD.out.2⟩
          · have hNMI : ¬ (N : Int) ≤ (M : Int) := by omega
            have hNMI2 : (M : Int) < (N : Int) := by omega
            have hgd := hfin.out (by
              rw [List.map_append]
              refine goodL_snoc HGL.out ?_ ?_ (fun hl => ?_)
              · show 1 ≤ val8 R X
                rw [← HXN.out]
                exact HN12.out.1
              · show val8 R X ≤ _
                rw [← HXN.out]
                exact HN12.out.2
              · rw [HM.out]
                show M < val8 R X
                rw [← HXN.out]
                omega)
            have HGD := Shut.mk hgd
            clear hgd hfin HBAD cR fR
            gi_wp2_with (gi_at_builtin; refine wpListIn_append7 _ rfl _ _ _ rfl 3 i0 _ 1 8 Tryz.underlying40 hi hz0 hz1 hz2 rfl (by decide) _ _ _ rfl (HB2.out.alloc _) _ 1 1 _ rfl (by rfl) (rd_new _ _ 3) (by simp [Value.oneCell']) (by have := HPL.out; have := HLT.out; simp only [maxLen]; omega) (by have := HLT.out; omega) ?_; intro v6 w6 hap6; obtain ⟨c6, f6⟩ := HC6.out _ _ _ hap6; obtain ⟨g6, k6, rfl, _, _⟩ := hap6.own.head (by omega))
            exact HGD.out _ _ _ _ rfl hap6
  case done =>
    rintro D xs W hDD ⟨hup, hlen⟩ hI hK
    rename_i K0 hK0
    show K0 _ _
    refine hK0 _ _ ?_
    refine wpIn_wide.2 ?_
    obtain ⟨A7, c7, b1, b2, b3⟩ := hI.st
    rw [hlen] at b1 b2 b3
    have hvals : (xs.map fun x => val8 R x.1) = vals R := by
      rw [map_upTo hup, hlen, HVL.out]
    have hgood := hI.good
    rw [hvals] at hgood
    have HGD := Shut.mk hgood
    rw [hvals] at b2
    obtain ⟨g7, k7, e7, _, _⟩ := b2.head (by omega)
    cases e7
    have cL := b1.cell
    have cR := hI.gr.cell
    have fR := hI.gr.frozen
    have hDlt := (Array.getElem?_eq_some_iff.1 hK).1
    have HK7 : Shut ((W.setCell ⟨GR, 0, none⟩ (.slice (some ⟨g7, 0, none⟩) K c7)).heap[D]? = some (.deferred (some []))) := ⟨(Below.heap_setCell W ⟨GR, 0, none⟩ _ D (by show D ≠ GR; omega)).trans hK⟩
    have HKB : Shut (Kb W (W.setCell ⟨GR, 0, none⟩ (.slice (some ⟨g7, 0, none⟩) K c7)) [GR]) := ⟨(Kb.refl W _).setCell (p := ⟨GR, 0, none⟩) (by simp) _⟩
    have HI := Shut.mk hI
    have HB2 := Shut.mk b2
    have HB3 := Shut.mk b3
    have HKD := Shut.mk hK
    clear hI b1 b2 b3 hK hvals hup hlen hK0 hgood
    go_wp2_with fail
    refine ⟨by simp, .inl ⟨_, _, rfl, run_takeDeferred HK7.out, ?_⟩⟩
    have hcr : ((W.setCell ⟨GR, 0, none⟩ (.slice (some ⟨g7, 0, none⟩) K c7)).putObj D (.deferred none)).cell? ⟨GR, 0, none⟩ = some (.slice (some ⟨g7, 0, none⟩) K c7) := by
      have h1 := (HI.out.gr.set (.slice (some ⟨g7, 0, none⟩) K c7)).kept (grownBy_putObj' _ D (.deferred none)) (fun e => by cases e; omega)
      exact h1.cell
    have hg9 := grownBy_putObj' (W.setCell ⟨GR, 0, none⟩ (.slice (some ⟨g7, 0, none⟩) K c7)) D (.deferred none)
    have hbel : Below w.heap.size w ((W.setCell ⟨GR, 0, none⟩ (.slice (some ⟨g7, 0, none⟩) K c7)).putObj D (.deferred none)) := (HKB.out.below HI.out.below (fun b hb => by
      rw [show b = GR by simpa using hb]
      exact hn1) HI.out.below.size).grown hg9 (Nat.le_trans HI.out.below.size HKB.out.size) (fun r hr => by cases hr; omega)
    have hgb := HB3.out g7 rfl
    have hgD : g7 ≠ D := fun e => by
      obtain ⟨cs, t, p, hc⟩ := own_cells HB2.out (q := g7) rfl
      have := HKD.out
      rw [← e, hc] at this
      cases this
    refine ⟨.slice (some ⟨g7, 0, none⟩) K c7, results_cell (t := 2) (ty := 40) rfl _ _ ⟨GR, 0, none⟩ _ rfl (by go_simp), ?_⟩
    refine ⟨hbel, .inr ⟨HGD.out, g7, c7, rfl, HB2.out.keep (fun q hq => ?_), by omega⟩⟩
    cases hq
    exact (hg9.block g7 (Nat.lt_of_lt_of_le (HB2.out.block_lt rfl) HKB.out.size) (fun e => hgD (by cases e; rfl))).trans (HKB.out.block g7 (HB2.out.block_lt rfl) (by simp; omega))
  case stop =>
    rintro D cd pre W hDD hup ⟨rfl, hX⟩ hK
    rename_i K0 hK0
    have hDlt := (Array.getElem?_eq_some_iff.1 hK).1
    have HX := Shut.mk hX
    have HKD := Shut.mk hK
    have HBADV : Shut (¬ goodL (vals R)) := ⟨fun hg => HX.out.bad hup (by
      have h1 := goodL_take hg pre.length
      rw [HVL.out, ← List.map_take, List.take_range, Nat.min_eq_left HX.out.len] at h1
      exact h1)⟩
    refine wpIn_wide.2 ?_
    go_wp2_with fail
    refine ⟨by simp, .inl ⟨_, _, rfl, run_takeDeferred HKD.out, ?_⟩⟩
    have hcr : (W.putObj D (.deferred none)).cell? ⟨GR, 0, none⟩ = some (.slice none 0 0) := (HX.out.gr.kept (grownBy_putObj' W D (.deferred none)) (fun e => by cases e; omega)).cell
    have hbel : Below w.heap.size w (W.putObj D (.deferred none)) := HX.out.below.grown (grownBy_putObj' W D (.deferred none)) HX.out.below.size (fun r hr => by cases hr; omega)
    refine ⟨.slice none 0 0, results_cell (t := 2) (ty := 40) rfl _ _ ⟨GR, 0, none⟩ _ rfl (by go_simp), hbel, .inl ⟨HBADV.out, rfl⟩⟩
end Go.Proofs.YtmlfeljhojmbbaaGreatDoor

namespace Go.Proofs.YtmlfeljhojmbbaaGreatDoor
open Go.RowKit Go.Maps Go.Shelf
set_option linter.unusedSimpArgs false
set_option linter.unusedVariables false
set_option maxRecDepth 100000

theorem parse_none (A : Option Addr) (c N : Nat) (b : List UInt8) (w : World) (hr : RdB w A b) (hN : b.length = N) (hc : N ≤ c) (hm : N ≤ 1048576) (hf : fstL b = none)
    (hk : Rd w (some ⟨1, 0, none⟩) (wds Psha.ks)) (hbg : Rd w (some ⟨0, 0, none⟩) (wds Psha.iv.list)) :
    Calls Tryz.prog 43 #[.slice A N c] w fun e w' => Below w.heap.size w w' ∧ e = .returned (.slice none 0 0) := by
  have hnil2 := fun (W : World) => Lib.run_eql_slice_nil (P := Tryz.prog) W 27 5 none 0 0 0 0 Tryz.underlying27
  have hb1 : Below w.heap.size w (w.alloc (.cells #[.slice none 0 0] 40)) := (Below.refl _ w).alloc (Nat.le_refl _) _
  have HFI : Shut (Calls Tryz.prog 83 #[.slice A N c] (w.alloc (.cells #[.slice none 0 0] 40)) fun e w2 => e = .returned (.slice none 0 0) ∧ Boxed w2 w.heap.size 40 (.slice none 0 0) ∧ Below w.heap.size w w2) := ⟨by
    refine (first_calls A c N b _ (hr.keep hb1) hN hc (by omega) (hk.keep hb1) (hbg.keep hb1)).mono ?_
    rintro e w2 ⟨hb2, ⟨hF, rfl⟩ | ⟨r, g, c2, hF, rfl, ho2, hg2⟩⟩
    · exact ⟨rfl, (hb2.block _ (by simp)).trans (Boxed.new w 40 (.slice none 0 0)), hb1.trans (hb2.mono (by simp))⟩
    · rw [hf] at hF
      cases hF⟩
  clear hr hk hbg hN hf
  go_enter Tryz.func43, Tryz.ntmps43
  go_wp2_with fail
  refine HFI.out.mono ?_
  rintro e w2 ⟨rfl, hbx, hb2⟩
  have cR := hbx.cell
  have fR := hbx.frozen
  have HBX := Shut.mk (hbx.set (.slice none 0 0))
  have cR2 := HBX.out.cell
  have HB2 : Shut (Below w.heap.size w (w2.setCell ⟨w.heap.size, 0, none⟩ (.slice none 0 0))) := ⟨hb2.setCell (p := ⟨w.heap.size, 0, none⟩) (Nat.le_refl _) _⟩
  clear hb2 hbx
  go_wp2_with fail
  refine ⟨rfl, .slice none 0 0, results_cell (t := 2) (ty := 40) rfl _ _ ⟨w.heap.size, 0, none⟩ _ rfl (by go_simp), HB2.out, rfl⟩
theorem parse_odd (A : Option Addr) (c N RL : Nat) (b R : List UInt8) (w : World) (hr : RdB w A b) (hN : b.length = N) (hc : N ≤ c) (hm : N ≤ 1048576) (hf : fstL b = some R) (hR : R.length = RL) (hodd : N ≠ 40 + RL ∨ (N = 40 + RL ∧ RL % 8 ≠ 0))
    (hk : Rd w (some ⟨1, 0, none⟩) (wds Psha.ks)) (hbg : Rd w (some ⟨0, 0, none⟩) (wds Psha.iv.list)) :
    Calls Tryz.prog 43 #[.slice A N c] w fun e w' => Below w.heap.size w w' ∧ e = .returned (.slice none 0 0) := by
  have hnil := fun (W : World) (g n c : Nat) => Lib.run_eql_slice_nil (P := Tryz.prog) W 27 5 (some ⟨g, 0, none⟩) n c 0 0 Tryz.underlying27
  have hb1 : Below w.heap.size w (w.alloc (.cells #[.slice none 0 0] 40)) := (Below.refl _ w).alloc (Nat.le_refl _) _
  have HFI : Shut (Calls Tryz.prog 83 #[.slice A N c] (w.alloc (.cells #[.slice none 0 0] 40)) fun e w2 => ∃ g c2, e = .returned (.slice (some ⟨g, 0, none⟩) RL c2) ∧ Boxed w2 w.heap.size 40 (.slice none 0 0) ∧ Below w.heap.size w w2) := ⟨by
    refine (first_calls A c N b _ (hr.keep hb1) hN hc (by omega) (hk.keep hb1) (hbg.keep hb1)).mono ?_
    rintro e w2 ⟨hb2, ⟨hF, rfl⟩ | ⟨r, g, c2, hF, rfl, ho2, hg2⟩⟩
    · rw [hf] at hF
      cases hF
    · rw [hf] at hF
      injection hF with hF
      subst hF
      exact ⟨g, c2, by rw [hR], (hb2.block _ (by simp)).trans (Boxed.new w 40 (.slice none 0 0)), hb1.trans (hb2.mono (by simp))⟩⟩
  have hRb : RL ≤ 4000 := by
    have := (fstL_some hf).1.2
    omega
  clear hr hk hbg hN hf hR
  rcases hodd with hodd | ⟨hodd, h8⟩
  · have hI : ¬ ((N : Int) = 40 + (RL : Int)) := by omega
    go_enter Tryz.func43, Tryz.ntmps43
    go_wp2_with fail
    refine HFI.out.mono ?_
    rintro e w2 ⟨g, c2, rfl, hbx, hb2⟩
    have cR := hbx.cell
    have fR := hbx.frozen
    have HBX := Shut.mk (hbx.set (.slice none 0 0))
    have cR2 := HBX.out.cell
    have HB2 : Shut (Below w.heap.size w (w2.setCell ⟨w.heap.size, 0, none⟩ (.slice none 0 0))) := ⟨hb2.setCell (p := ⟨w.heap.size, 0, none⟩) (Nat.le_refl _) _⟩
    clear hb2 hbx hodd
    go_wp2_with fail
    refine ⟨rfl, .slice none 0 0, results_cell (t := 2) (ty := 40) rfl _ _ ⟨w.heap.size, 0, none⟩ _ rfl (by go_simp), HB2.out, rfl⟩
  · subst hodd
    obtain ⟨RM, hRM⟩ : ∃ RM, RM = RL % 8 := ⟨_, rfl⟩
    have hI : (RL : Int).tmod 8 = (RM : Int) := by rw [Int.tmod_eq_emod_of_nonneg (by omega)]; omega
    have hI2 : ¬ ((RM : Int) = 0) := by omega
    clear hRM
    go_enter Tryz.func43, Tryz.ntmps43
    go_wp2_with fail
    refine HFI.out.mono ?_
    rintro e w2 ⟨g, c2, rfl, hbx, hb2⟩
    have cR := hbx.cell
    have fR := hbx.frozen
    have HBX := Shut.mk (hbx.set (.slice none 0 0))
    have cR2 := HBX.out.cell
    have HB2 : Shut (Below w.heap.size w (w2.setCell ⟨w.heap.size, 0, none⟩ (.slice none 0 0))) := ⟨hb2.setCell (p := ⟨w.heap.size, 0, none⟩) (Nat.le_refl _) _⟩
    clear hb2 hbx h8
    go_wp2_with fail
    refine ⟨rfl, .slice none 0 0, results_cell (t := 2) (ty := 40) rfl _ _ ⟨w.heap.size, 0, none⟩ _ rfl (by go_simp), HB2.out, rfl⟩
/-- parse of any bytes -/
theorem parse_any (A : Option Addr) (c N : Nat) (b : List UInt8) (w : World) (hr : RdB w A b) (hN : b.length = N) (hc : N ≤ c) (hm : N ≤ 1048576)
    (hk : Rd w (some ⟨1, 0, none⟩) (wds Psha.ks)) (hbg : Rd w (some ⟨0, 0, none⟩) (wds Psha.iv.list)) :
    Calls Tryz.prog 43 #[.slice A N c] w fun e w' => Below w.heap.size w w' ∧ ((prsL b = none ∧ e = .returned (.slice none 0 0)) ∨ ∃ ss g c', prsL b = some ss ∧ e = .returned (.slice (some ⟨g, 0, none⟩) ss.length c') ∧ Own w' 3 1 (.slice (some ⟨g, 0, none⟩) ss.length c') ss.length (its ss) ∧ w.heap.size ≤ g) := by
  cases hf : fstL b with
  | none =>
    refine (parse_none A c N b w hr hN hc hm hf hk hbg).mono ?_
    rintro e w' ⟨h1, rfl⟩
    exact ⟨h1, .inl ⟨by unfold prsL; rw [hf], rfl⟩⟩
  | some R =>
    have hR1 := (fstL_some hf).1
    obtain ⟨hR1, hR2⟩ := hR1
    by_cases hlen : N = 40 + R.length ∧ R.length % 8 = 0
    · obtain ⟨h1, h2⟩ := hlen
      obtain ⟨K, hK⟩ : ∃ K, R.length = 8 * K := ⟨R.length / 8, by omega⟩
      obtain rfl : N = 40 + 8 * K := by omega
      refine (parse_loop A c K b R w hr hf hN hK (by omega) (by omega) hc hk hbg).mono ?_
      rintro e w' ⟨hb, ⟨hg, rfl⟩ | ⟨hg, g, c', rfl, ho, hgg⟩⟩
      · refine ⟨hb, .inl ⟨?_, rfl⟩⟩
        unfold prsL
        rw [hf]
        exact if_neg (fun h => hg h.2.2)
      · have hl : (vals R).length = K := by
          unfold vals
          rw [List.length_map, List.length_range, hK]
          omega
        refine ⟨hb, .inr ⟨vals R, g, c', ?_, by rw [hl], by rw [hl]; exact ho, hgg⟩⟩
        unfold prsL
        rw [hf]
        exact if_pos ⟨by rw [hN, hK], by omega, hg⟩
    · refine (parse_odd A c N R.length b R w hr hN hc hm hf rfl (by omega) hk hbg).mono ?_
      rintro e w' ⟨h1, rfl⟩
      refine ⟨h1, .inl ⟨?_, rfl⟩⟩
      unfold prsL
      rw [hf]
      exact if_neg (fun h => hlen ⟨by rw [← hN]; exact h.1, h.2.1⟩)
end Go.Proofs.YtmlfeljhojmbbaaGreatDoor

namespace Go.Proofs.YtmlfeljhojmbbaaGreatDoor
open Go.RowKit Go.Maps Go.Sort
set_option linter.unusedSimpArgs false
set_option linter.unusedVariables false
set_option maxRecDepth 100000

section
variable {w w' : World} {gl gd Z : Nat} {H : List Nat} {d : Ds} {l : List Nat} {dead : Bool}
theorem LD.c0 (h : LD w gl gd Z H d l dead) : w.cell? ⟨gl, 0, none⟩ = some (gp gd) := by
  obtain ⟨A, c, g1, _⟩ := h.log
  exact g1.cell 0
theorem LD.c2 (h : LD w gl gd Z H d l dead) : w.cell? ⟨gl, 2, none⟩ = some (.bool dead) := by
  obtain ⟨A, c, g1, _⟩ := h.log
  exact g1.cell 2
/-- H may be taken to lie in the heap -/
theorem LD.trim (h : LD w gl gd Z H d l dead) : ∃ H', LD w gl gd Z H' d l dead ∧ (∀ x ∈ H', x ∈ H) ∧ ∀ x ∈ H', x < w.heap.size := by
  obtain ⟨⟨F, A, c, ⟨gm, es, hD, hS, hF⟩, h2, h3, h4⟩, h5, h6, h7, h8⟩ := h
  refine ⟨H.filter (fun x => decide (x < w.heap.size)), ⟨⟨foot gd gm es, A, c, ⟨gm, es, hD, hS, fun x hx => hx⟩, h2, fun x hx => ⟨?_, (h3 x (hF x hx)).2⟩, fun a ha hl => ⟨fun hx => (h4 a ha hl).1 (hF _ hx), (h4 a ha hl).2.1, ?_⟩⟩, ?_, fun x hx => h6 x (List.mem_filter.1 hx).1, h7, h8⟩, fun x hx => (List.mem_filter.1 hx).1, fun x hx => by simpa using (List.mem_filter.1 hx).2⟩
  · rw [List.mem_filter]
    exact ⟨(h3 x (hF x hx)).1, by simpa using hD.lt hx⟩
  · rw [List.mem_filter]
    refine ⟨(h4 a ha hl).2.2, ?_⟩
    obtain ⟨a', e', hc⟩ := h2.rd (its_ne hl)
    rw [ha] at e'
    injection e' with e'
    subst e'
    have hpos : 0 < l.length := List.length_pos_iff.2 hl
    have h9 := World.block_lt_of_cell? w _ (hc 0 _ (its_get hpos))
    rw [block_of_add] at h9
    simpa using h9
  · rw [List.mem_filter]
    exact ⟨h5, by simpa using h2.blk.lt⟩
/-- remove, as a function -/
def lRem (d : Ds) : List Nat → Int × Ds
  | [] => (0, d)
  | n :: r => if (look d.S (seg n)).isSome = true then (if (dDel d (seg n)).1 = 0 then lRem (dDel d (seg n)).2 r else dDel d (seg n)) else lRem d r
theorem segS_size {n : Nat} (h : n ≤ 99999999) : (segS n).size ≤ reach := by
  have := seg_length h
  rw [Lib.size_eq, segS_list, this]
  unfold reach
  decide
theorem seg_remove (h : LD w gl gd Z H d l dead) (ho : d.Ok) (n : Nat) (hn : n ≤ 99999999) :
    Calls Tryz.prog 30 #[gp gd, .string (segS n)] w fun e w' => e = .returned (.int .i64 (dDel d (seg n)).1) ∧ LStp w w' gl gd Z H (dDel d (seg n)).2 l dead := by
  have := ld_remove h ho (segS n) (segS_size hn)
  rw [segS_list] at this
  exact this
theorem seg_sync (h : LD w gl gd Z H d l dead) (ho : d.Ok) (n : Nat) (hn : n ≤ 99999999) :
    Calls Tryz.prog 24 #[gp gd, .string (segS n)] w fun e w' => e = .returned (.int .i64 (dSync d (seg n)).1) ∧ LStp w w' gl gd Z H (dSync d (seg n)).2 l dead := by
  have := ld_sync h ho (segS n) (segS_size hn)
  rw [segS_list] at this
  exact this
theorem seg_cut (h : LD w gl gd Z H d l dead) (ho : d.Ok) (n : Nat) (hn : n ≤ 99999999) (k : Int) :
    Calls Tryz.prog 26 #[gp gd, .string (segS n), .int .i64 k] w fun e w' => e = .returned (.int .i64 (dCut d (seg n) k).1) ∧ LStp w w' gl gd Z H (dCut d (seg n) k).2 l dead := by
  have := ld_cut h ho (segS n) k (segS_size hn)
  rw [segS_list] at this
  exact this
theorem seg_has (h : LD w gl gd Z H d l dead) (hn : d.n < 1000000000) (n : Nat) : Calls Tryz.prog 41 #[gp gl, .string (segS n)] w fun e w' => e = .returned (.bool (look d.S (seg n)).isSome) ∧ Below w.heap.size w w' := by
  have := has_calls h hn (segS n)
  rw [segS_list] at this
  exact this
theorem below_drewR {w w' : World} (h : Below w.heap.size w.drew w') : Below w.heap.size w w' := ⟨h.os, h.tape, h.output, h.size, h.block⟩
set_option maxHeartbeats 2000000 in
theorem remove_calls (h : LD w gl gd Z H d l dead) (ho : OkN d 0) (A : Option Addr) (c : Nat) (ss : List Nat) (hr : Rd w A (its ss)) (hA : ∀ a, A = some a → a.block ∉ H ∧ a.block < w.heap.size) (h9 : ∀ n ∈ ss, n ≤ 99999999) (hm : ss.length ≤ 1000) :
    Calls Tryz.prog 53 #[gp gl, .slice A ss.length c] w fun e w' => e = .returned (.int .i64 (lRem d ss).1) ∧ LStp w w' gl gd Z H (lRem d ss).2 l (dead || decide ((lRem d ss).1 = 62)) := by
  obtain ⟨N, hN⟩ : ∃ N, N = ss.length := ⟨_, rfl⟩
  rw [← hN] at hm ⊢
  have HR := Shut.mk hr
  have HA := Shut.mk hA
  have HLL := Shut.mk h9
  have HL := Shut.mk h
  have HO := Shut.mk ho
  have HN := Shut.mk hN
  clear hr hA h9 h ho hN
  go_enter Tryz.func53, Tryz.ntmps53
  go_wp2_with fail
  go_loopw [10] (fun i wr => ∃ k : Nat, k ≤ N ∧ i = .int .i64 k ∧ Shut (∃ d1, OkN d1 0 ∧ LStp w wr gl gd Z H d1 l dead ∧ lRem d ss = lRem d1 (ss.drop k))) (fun i _ => N - (intOf i).toNat)
  case atStart => exact ⟨0, Nat.zero_le _, rfl, ⟨d, HO.out, LStp.same HL.out, rfl⟩⟩
  case round =>
    obtain ⟨k, hk, rfl, ⟨d1, hO1, ⟨H1, hL1, hk1, hs1⟩, hrem⟩⟩ := hrel
    by_cases hlt : k < N
    · have hkl : k < ss.length := by rw [← HN.out]; exact hlt
      obtain ⟨a, hA, hc⟩ := HR.out (its_ne (fun e => by rw [e] at hkl; simp at hkl))
      subst hA
      have c0 := hc k _ (its_get hkl)
      have c2 : wr.cell? (a.add k) = some (.int .i64 (ss[k] : Int)) := (World.cell?_of_block (w := w) (hk1.block _ (World.block_lt_of_cell? w _ c0) (fun hx => (HA.out a rfl).1 (by rw [block_of_add] at hx; exact hx)))).trans c0
      obtain ⟨n, hn⟩ : ∃ n, n = ss[k] := ⟨_, rfl⟩
      have hn9 : n ≤ 99999999 := by rw [hn]; exact HLL.out _ (List.getElem_mem _)
      rw [← hn] at c2
      rw [List.drop_eq_getElem_cons hkl, ← hn] at hrem
      have HREM := Shut.mk hrem
      have HL1 := Shut.mk hL1
      have HO1 := Shut.mk hO1
      have HK1 := Shut.mk (And.intro hk1 hs1)
      have hkI : (k : Int) < (N : Int) := by omega
      clear hc c0 hn hL1 hO1 hk1 hs1 hrem
      go_wp2_with fail
      refine (file_calls n wr hn9 HL1.out.tb.p).mono ?_
      rintro e w2 ⟨rfl, hb2⟩
      have HB2 := Shut.mk hb2
      clear hb2
      go_wp2_with fail
      refine (seg_has (HL1.out.quiet HB2.out) (by have := HO1.out.n; omega) n).mono ?_
      rintro e w3 ⟨rfl, hb3⟩
      have HL3 := Shut.mk ((HL1.out.quiet HB2.out).quiet hb3)
      have HK3 := Shut.mk (show Kb w w3 H ∧ ∀ x ∈ H1, x ∈ H ∨ w.heap.size ≤ x from ⟨(HK1.out.1.below_ HB2.out).below_ hb3, HK1.out.2⟩)
      clear hb3
      by_cases hlk : (look d1.S (seg n)).isSome = true
      · rw [hlk]
        have s0 := HL3.out.c0
        have HF := Shut.mk (file_calls n w3.drew hn9 (HL3.out.quiet (w' := w3.drew) ((Below.refl _ w3).drew)).tb.p)
        go_wp2_with fail
        go_region_held3 (fun w' => w'.cell? ⟨gl, 0, none⟩ = some (gp gd)) (first | exact s0 | exact t0 | exact t1 | exact t2 | go_keep)
          (first
            | (go_at_call 49; refine HF.out.mono ?_; rintro e w4 ⟨rfl, hb4⟩; have HL4 := Shut.mk (HL3.out.quiet (below_drewR (w := w3) hb4)); have t0 := HL4.out.c0; have HB4 := Shut.mk (below_drewR (w := w3) hb4); clear hb4)
            | (go_at_call 30; refine (seg_remove HL4.out HO1.out.ok n hn9).mono ?_; rintro e w5 ⟨rfl, H5, hL5, hk5, hs5⟩; have HL5 := Shut.mk hL5; have t1 := HL5.out.c0; have HK5 := Shut.mk (And.intro hk5 hs5); clear hL5 hk5 hs5)
            | (go_at_call 51; refine (note_calls HL5.out _).mono ?_; rintro e w6 ⟨rfl, H6, hL6, hk6, hs6⟩; have HL6 := Shut.mk hL6; have t2 := HL6.out.c0; have HK6 := Shut.mk (And.intro hk6 hs6); clear hL6 hk6 hs6))
        have HST := Shut.mk (LStp.trans (HK3.out.1.below_ HB4.out) HK3.out.2 (LStp.trans HK5.out.1 HK5.out.2 (⟨H6, HL6.out, HK6.out.1, HK6.out.2⟩ : LStp w5 w6 gl gd Z H5 (dDel d1 (seg n)).2 l (dead || decide ((dDel d1 (seg n)).1 = 62)))))
        have HRR : Shut (lRem d ss = if (dDel d1 (seg n)).1 = 0 then lRem (dDel d1 (seg n)).2 (ss.drop (k + 1)) else dDel d1 (seg n)) := ⟨HREM.out.trans (by
          show (if (look d1.S (seg n)).isSome = true then _ else _) = _
          rw [if_pos hlk])⟩
        obtain ⟨E, hE⟩ : ∃ E, E = (dDel d1 (seg n)).1 := ⟨_, rfl⟩
        rw [← hE] at HST HRR ⊢
        have HE := Shut.mk hE
        clear hE s0 t0 t1 t2
        by_cases hE : E = 0
        · subst hE
          go_wp2_with fail
          go_roundw
          case rel =>
            refine ⟨k + 1, by omega, by go_num, ⟨_, HO1.out.del (seg n), ?_, HRR.out.trans (if_pos rfl)⟩⟩
            have := HST.out
            simpa using this
          case measure => first | (simp [intOf]; done) | (simp [intOf]; omega)
        · go_wp2_with fail
          go_ret
          have h1 := HRR.out.trans (if_neg hE)
          rw [h1, ← HE.out]
          exact ⟨rfl, HST.out⟩
      · rw [Bool.not_eq_true] at hlk
        rw [hlk]
        have HRR : Shut (lRem d ss = lRem d1 (ss.drop (k + 1))) := ⟨HREM.out.trans (by
          show (if (look d1.S (seg n)).isSome = true then _ else _) = _
          rw [if_neg (by rw [hlk]; simp)])⟩
        go_wp2_with fail
        go_roundw
        case rel => exact ⟨k + 1, by omega, by go_num, ⟨_, HO1.out, ⟨H1, HL3.out, HK3.out.1, HK3.out.2⟩, HRR.out⟩⟩
        case measure => first | (simp [intOf]; done) | (simp [intOf]; omega)
    · obtain rfl : k = N := by omega
      have h0 : lRem d ss = (0, d1) := by
        rw [hrem, List.drop_of_length_le (by rw [← HN.out]; exact Nat.le_refl _)]
        rfl
      have HST := Shut.mk (⟨H1, hL1, hk1, hs1⟩ : LStp w wr gl gd Z H d1 l dead)
      clear hrem hL1 hk1 hs1
      go_wp2_with fail
      go_ret
      rw [h0]
      refine ⟨rfl, ?_⟩
      show LStp w wr gl gd Z H d1 l (dead || decide ((0 : Int) = 62))
      rw [show (dead || decide ((0 : Int) = 62)) = dead by simp]
      exact HST.out
end
end Go.Proofs.YtmlfeljhojmbbaaGreatDoor

namespace Go.Proofs.YtmlfeljhojmbbaaGreatDoor
open Go.RowKit Go.Maps Go.Sort
set_option linter.unusedSimpArgs false
set_option linter.unusedVariables false
set_option maxRecDepth 100000

theorem info_rows : (Tryz.prog.info? 27).map (fun i => (i.zero, i.size, i.bytes)) = some (some (.slice none 0 0), 1, 24) := by kernel_rfl
theorem own_row {B : Nat} {w : World} {e : Nat} {v : Value} {n : Nat} {xs : List Value} (h : w.ownsRow B e 1 v n xs) : Own w e 1 v n xs ∧ ∀ g, v.ownBlock = some g → B ≤ g := by
  refine ⟨⟨h.1, ?_⟩, ?_⟩
  · rcases h.2 with h | ⟨g, cap, cur, h1, h2, h3, h4, h5, h6, h7⟩
    · exact .inl h
    · exact .inr ⟨g, cap, cur, h1, h3, h4, h5, by omega, h7⟩
  · intro g hg
    rcases h.2 with ⟨rfl, _⟩ | ⟨g', cap, cur, rfl, h2, _⟩
    · cases hg
    · have e9 : g' = g := by simpa [Value.ownBlock] using hg
      subst e9
      exact h2
/-! ### rows of records -/
/-- these values are slices of these bytes, in blocks of a kind -/
def RwV (w : World) (Q : Nat → Prop) (vs : List Value) (rs : List (List UInt8)) : Prop :=
  vs.length = rs.length ∧ ∀ i, (h : i < rs.length) → ∃ A c, vs[i]? = some (.slice A rs[i].length c) ∧ rs[i].length ≤ c ∧ RdB w A rs[i] ∧ ∀ a, A = some a → Q a.block
theorem RwV.nil (w : World) (Q : Nat → Prop) : RwV w Q [] [] := ⟨rfl, fun i h => by simp at h⟩
theorem RwV.imp {w : World} {Q Q' : Nat → Prop} {vs : List Value} {rs : List (List UInt8)} (h : RwV w Q vs rs) (hq : ∀ x, Q x → Q' x) : RwV w Q' vs rs :=
  ⟨h.1, fun i hi => by
    obtain ⟨A, c, h1, h2, h3, h4⟩ := h.2 i hi
    exact ⟨A, c, h1, h2, h3, fun a ha => hq _ (h4 a ha)⟩⟩
theorem rdB_kept {w w' : World} {A : Option Addr} {l : List UInt8} {L : List Nat} (h : RdB w A l) (hk : Kb w w' L) (hA : ∀ a, A = some a → a.block ∉ L) : RdB w' A l := by
  intro k hkl
  obtain ⟨ad, e, hc⟩ := h k hkl
  refine ⟨ad, e, ?_⟩
  have hlt := World.block_lt_of_cell? w _ hc
  rw [← hc]
  exact World.cell?_of_block (w := w) (hk.block _ hlt (by rw [block_of_add]; exact hA ad e))
theorem RwV.kept {w w' : World} {Q : Nat → Prop} {vs : List Value} {rs : List (List UInt8)} {L : List Nat} (h : RwV w Q vs rs) (hk : Kb w w' L) (hq : ∀ x, Q x → x ∉ L) : RwV w' Q vs rs :=
  ⟨h.1, fun i hi => by
    obtain ⟨A, c, h1, h2, h3, h4⟩ := h.2 i hi
    exact ⟨A, c, h1, h2, rdB_kept h3 hk (fun a ha => hq _ (h4 a ha)), h4⟩⟩
theorem RwV.keep {w w' : World} {Q : Nat → Prop} {vs : List Value} {rs : List (List UInt8)} (h : RwV w Q vs rs) (hb : Below w.heap.size w w') : RwV w' Q vs rs :=
  h.kept (Kb.of_below hb []) (fun x _ hx => by cases hx)
theorem RwV.snoc {w : World} {Q : Nat → Prop} {vs : List Value} {rs : List (List UInt8)} (h : RwV w Q vs rs) {A : Option Addr} {c : Nat} {r : List UInt8} (hc : r.length ≤ c) (hr : RdB w A r) (hq : ∀ a, A = some a → Q a.block) :
    RwV w Q (vs ++ [.slice A r.length c]) (rs ++ [r]) := by
  refine ⟨by simp [h.1], fun i hi => ?_⟩
  rw [List.length_append, List.length_singleton] at hi
  by_cases hlt : i < rs.length
  · obtain ⟨A', c', h1, h2, h3, h4⟩ := h.2 i hlt
    have e : (rs ++ [r])[i] = rs[i] := List.getElem_append_left hlt
    rw [e]
    exact ⟨A', c', by rw [List.getElem?_append_left (by rw [h.1]; exact hlt)]; exact h1, h2, h3, h4⟩
  · obtain rfl : i = rs.length := by omega
    have e : (rs ++ [r])[rs.length] = r := by simp
    rw [e]
    exact ⟨A, c, by rw [← h.1]; simp, hc, hr, hq⟩
/-- a slice of one's own that holds these records: its block lies from lo on, theirs are of a kind, and are not its own -/
def Recs (w : World) (lo : Nat) (P : Nat → Prop) (u : Value) (rs : List (List UInt8)) : Prop :=
  ∃ vs, Own w 27 1 u rs.length vs ∧ RwV w (fun x => P x ∧ x < w.heap.size ∧ u.ownBlock ≠ some x) vs rs ∧ ∀ g, u.ownBlock = some g → lo ≤ g
theorem Recs.nil (w : World) (lo : Nat) (P : Nat → Prop) : Recs w lo P (.slice none 0 0) [] := ⟨[], Own.nil _ _ _, RwV.nil _ _, fun g hg => by cases hg⟩
theorem Recs.kept {w w' : World} {lo : Nat} {P : Nat → Prop} {u : Value} {rs : List (List UInt8)} {L : List Nat} (h : Recs w lo P u rs) (hk : Kb w w' L) (hu : ∀ g, u.ownBlock = some g → g ∉ L) (hp : ∀ x, P x → x < w.heap.size → x ∉ L) : Recs w' lo P u rs := by
  obtain ⟨vs, h1, h2, h3⟩ := h
  exact ⟨vs, hk.own h1 hu, (h2.kept hk (fun x hx => hp x hx.1 hx.2.1)).imp fun x hx => ⟨hx.1, Nat.lt_of_lt_of_le hx.2.1 hk.size, hx.2.2⟩, h3⟩
theorem Recs.quiet {w w' : World} {lo : Nat} {P : Nat → Prop} {u : Value} {rs : List (List UInt8)} (h : Recs w lo P u rs) (hb : Below w.heap.size w w') : Recs w' lo P u rs :=
  h.kept (Kb.of_below hb []) (fun g _ hx => by cases hx) (fun x _ _ hx => by cases hx)
theorem Recs.imp {w : World} {lo lo' : Nat} {P P' : Nat → Prop} {u : Value} {rs : List (List UInt8)} (h : Recs w lo P u rs) (hl : lo' ≤ lo) (hp : ∀ x, P x → P' x) : Recs w lo' P' u rs := by
  obtain ⟨vs, h1, h2, h3⟩ := h
  exact ⟨vs, h1, h2.imp fun x hx => ⟨hp x hx.1, hx.2⟩, fun g hg => Nat.le_trans hl (h3 g hg)⟩
theorem Recs.bound {w : World} {lo : Nat} {P : Nat → Prop} {u : Value} {rs : List (List UInt8)} (h : Recs w lo P u rs) : Recs w lo (fun x => P x ∧ x < w.heap.size) u rs := by
  obtain ⟨vs, h1, h2, h3⟩ := h
  exact ⟨vs, h1, h2.imp fun x hx => ⟨⟨hx.1, hx.2.1⟩, hx.2⟩, h3⟩
theorem kb_appended {w w' : World} {o : Obj} {e size : Nat} {u u' : Value} {n m : Nat} {xs news : List Value} (hap : Appended (w.alloc o) w' e size u u' n m xs news) : Kb w w' u.ownBlock.toList :=
  ((Kb.refl w _).alloc o).trans (Kb.of_grown hap.grown (L := u.ownBlock.toList) (fun r hr => by rw [hr]; simp)) (fun x hx => .inl hx)
theorem Recs.append {w w' : World} {lo : Nat} {P : Nat → Prop} {u u' : Value} {rs : List (List UInt8)} {vs : List Value} {o : Obj} {A : Option Addr} {c : Nat} {r : List UInt8}
    (h1 : Own w 27 1 u rs.length vs) (h2 : RwV w (fun x => P x ∧ x < w.heap.size ∧ u.ownBlock ≠ some x) vs rs) (h3 : ∀ g, u.ownBlock = some g → lo ≤ g) (hlo : lo ≤ w.heap.size)
    (hap : Appended (w.alloc o) w' 27 1 u u' rs.length 1 vs [.slice A r.length c]) (hc : r.length ≤ c) (hr : RdB w A r) (hA : ∀ a, A = some a → P a.block ∧ a.block < w.heap.size ∧ u.ownBlock ≠ some a.block) : Recs w' lo P u' (rs ++ [r]) := by
  have hk := kb_appended hap
  have hL : ∀ x, x ∈ u.ownBlock.toList → u.ownBlock = some x := fun x hx => by simpa using hx
  have h5 := h2.snoc hc hr hA
  have h6 := h5.kept hk (fun x hx hL' => hx.2.2 (hL x hL'))
  refine ⟨_, hap.own.cast (by simp) rfl, h6.imp fun x hx => ⟨hx.1, Nat.lt_of_lt_of_le hx.2.1 hk.size, fun e => ?_⟩, fun g hg => ?_⟩
  · rcases hap.lies with h | h
    · exact hx.2.2 (h ▸ e)
    · rw [e] at h
      injection h with h
      rw [World.size_alloc] at h
      have := hx.2.1
      omega
  · rcases hap.lies with h | h
    · exact h3 g (h ▸ hg)
    · rw [hg] at h
      injection h with h
      rw [World.size_alloc] at h
      omega
/-! ### a file's bytes -/
def cont (d : Ds) (n : Nat) : List UInt8 := ((look d.S (seg n)).map (·.1)).getD []
section
variable {w w' : World} {gl gd Z : Nat} {H : List Nat} {d : Ds} {l : List Nat} {dead : Bool}
theorem LD.lens (h : LD w gl gd Z H d l dead) {s b : List UInt8} {sy : Nat} (hl : look d.S s = some (b, sy)) : sy ≤ b.length ∧ b.length ≤ 1048576 := by
  obtain ⟨F, ⟨gm, es, hD, hS, hF⟩, _⟩ := h.disk
  rw [← hS] at hl
  obtain ⟨x, h1, rfl, rfl⟩ := look_fls hl
  exact hD.len x (lookE_mem h1).1
theorem LD.cont_le (h : LD w gl gd Z H d l dead) (n : Nat) : (cont d n).length ≤ 1048576 := by
  unfold cont
  cases hl : look d.S (seg n) with
  | none => simp
  | some p =>
    obtain ⟨b, sy⟩ := p
    exact (h.lens hl).2
theorem seg_read (h : LD w gl gd Z H d l dead) (n : Nat) (hn : n ≤ 99999999) : Calls Tryz.prog 40 #[gp gd, .string (segS n)] w fun e w' =>
    ∃ A c, ∃ E : Int, e = .returned (.tuple #[.slice A (cont d n).length c, .int .i64 E]) ∧ Shut (E = if (look d.S (seg n)).isSome = true then 0 else 60) ∧ Own w' 5 1 (.slice A (cont d n).length c) (cont d n).length (bys (cont d n)) ∧ Below w.heap.size w w' ∧ ∀ g, (Value.slice A (cont d n).length c).ownBlock = some g → w.heap.size ≤ g := by
  obtain ⟨F, hD, _⟩ := h.disk
  have := dd_read hD (segS n) (segS_size hn)
  rw [segS_list] at this
  refine this.mono ?_
  rintro e w' ⟨A, c, he, ho, hb, hn⟩
  exact ⟨A, c, _, he, ⟨rfl⟩, ho, hb, hn⟩
end
/-! ### syncs in a row -/
/-! ### what scan finds -/
def recsL (d : Ds) (l : List Nat) : List (List UInt8) := l.flatMap fun n => rdL (cont d n)
def wl (d : Ds) (n : Nat) : Nat := (frs (rdL (cont d n))).length
def whole (d : Ds) (n : Nat) : Prop := wl d n = (cont d n).length
theorem rdL_many : ∀ (f : Nat) (b : List UInt8), b.length ≤ f → 41 * (rdL b).length ≤ (frs (rdL b)).length
  | f, b, _ => by
    have h := rdL_ok b
    generalize rdL b = rs at h
    induction rs with
    | nil => simp
    | cons r rs ih =>
      rw [frs_cons, List.length_append, frm_length, List.length_cons]
      have h1 := (h r List.mem_cons_self).1
      have h2 := ih fun y hy => h y (List.mem_cons_of_mem _ hy)
      omega
end Go.Proofs.YtmlfeljhojmbbaaGreatDoor

namespace Go.Proofs.YtmlfeljhojmbbaaGreatDoor
open Go.RowKit Go.Maps Go.Sort
set_option linter.unusedSimpArgs false
set_option linter.unusedVariables false
set_option maxRecDepth 100000

section
variable {w w' : World} {gl gd Z : Nat} {H : List Nat} {d : Ds} {l : List Nat} {dead : Bool}
end
end Go.Proofs.YtmlfeljhojmbbaaGreatDoor

namespace Go.Proofs.YtmlfeljhojmbbaaGreatDoor
open Go.RowKit Go.Maps Go.Sort
set_option linter.unusedSimpArgs false
set_option linter.unusedVariables false
set_option maxRecDepth 100000

/-- the log's files -/
def mineL (l : List Nat) : List (List UInt8) := l.map seg ++ [manN]
end Go.Proofs.YtmlfeljhojmbbaaGreatDoor

namespace Go.Proofs.YtmlfeljhojmbbaaGreatDoor
open Go.RowKit Go.Maps Go.Sort
set_option linter.unusedSimpArgs false
set_option linter.unusedVariables false
set_option maxRecDepth 100000

theorem dd_trim {w : World} {gd : Nat} {F : List Nat} {d : Ds} (h : DD w gd F d) : ∃ F0, DD w gd F0 d ∧ (∀ x ∈ F0, x ∈ F) ∧ ∀ x ∈ F0, x < w.heap.size := by
  obtain ⟨gm, es, hD, hS, hF⟩ := h
  exact ⟨foot gd gm es, ⟨gm, es, hD, hS, fun x hx => hx⟩, hF, fun x hx => hD.lt hx⟩
/-- a log of no segments is boxed beside the disk -/
theorem ld_box {w : World} {gd Z : Nat} {F : List Nat} {d : Ds} (h : DD w gd F d) (hF : ∀ x ∈ F, Z ≤ x ∧ x < w.heap.size) (hz : Z ≤ w.heap.size) (ht : Tb w Z) :
    LD (w.alloc (.cells #[gp gd, .slice none 0 0, .bool false] 77)) w.heap.size gd Z (w.heap.size :: F) d [] false := by
  have hb : Below w.heap.size w (w.alloc (.cells #[gp gd, .slice none 0 0, .bool false] 77)) := (Below.refl _ w).alloc (Nat.le_refl _) _
  refine ⟨⟨F, none, 0, Dsk.below h hb, ⟨Blk.new w _ _, fun hne => absurd rfl hne, ⟨Nat.le_refl _, fun a ha => by cases ha⟩⟩, fun x hx => ⟨List.mem_cons_of_mem _ hx, fun e => ?_⟩, fun a ha => by cases ha⟩, List.mem_cons_self, fun x hx => ?_, Nat.le_trans hz hb.size, ht.below (hb.mono hz)⟩
  · have := (hF x hx).2
    omega
  · rcases List.mem_cons.1 hx with h | h
    · omega
    · exact (hF x h).1
section
variable {w w' : World} {gd Z : Nat} {F : List Nat} {d : Ds}
theorem dd_read_man (h : DD w gd F d) : Calls Tryz.prog 40 #[gp gd, .string ⟨#[109, 97, 110, 105, 102, 101, 115, 116]⟩] w fun e w' =>
    ∃ A c, ∃ E : Int, e = .returned (.tuple #[.slice A (((look d.S manN).map (·.1)).getD []).length c, .int .i64 E]) ∧ Shut (E = if (look d.S manN).isSome = true then 0 else 60) ∧ Own w' 5 1 (.slice A (((look d.S manN).map (·.1)).getD []).length c) (((look d.S manN).map (·.1)).getD []).length (bys (((look d.S manN).map (·.1)).getD [])) ∧ Below w.heap.size w w' := by
  refine (dd_read h ⟨#[109, 97, 110, 105, 102, 101, 115, 116]⟩ (by unfold reach; decide)).mono ?_
  rintro e w' ⟨A, c, he, ho, hb, _⟩
  exact ⟨A, c, _, he, ⟨rfl⟩, ho, hb⟩
end
end Go.Proofs.YtmlfeljhojmbbaaGreatDoor

namespace Go.Proofs.YtmlfeljhojmbbaaGreatDoor
open Go.RowKit Go.Maps Go.Sort
set_option linter.unusedSimpArgs false
set_option linter.unusedVariables false
set_option maxRecDepth 100000

section
variable {d d' : Ds} {cs : List (Nat × List (List UInt8))} {m j : Nat} {rm : List (List UInt8)}
end
section
variable {w w' : World} {gl gd Z : Nat} {H : List Nat} {d : Ds} {cs : List (Nat × List (List UInt8))} {m : Nat} {dead : Bool}
end
end Go.Proofs.YtmlfeljhojmbbaaGreatDoor

namespace Go.Proofs.YtmlfeljhojmbbaaGreatDoor
open Go.RowKit Go.Maps Go.Sort
set_option linter.unusedSimpArgs false
set_option linter.unusedVariables false
set_option maxRecDepth 100000

section
variable {w w' : World} {gl gd Z : Nat} {H : List Nat} {d : Ds} {cs : List (Nat × List (List UInt8))} {m j : Nat} {rm : List (List UInt8)} {dead : Bool}

end
end Go.Proofs.YtmlfeljhojmbbaaGreatDoor

namespace Go.Proofs.YtmlfeljhojmbbaaGreatDoor
open Go.RowKit Go.Maps Go.Sort
set_option linter.unusedSimpArgs false
set_option linter.unusedVariables false
set_option maxRecDepth 100000

section
variable {w w' : World} {gl gd Z : Nat} {H : List Nat} {d : Ds} {l : List Nat} {dead : Bool} {cs : List (Nat × List (List UInt8))} {m j : Nat} {rm : List (List UInt8)}
end
end Go.Proofs.YtmlfeljhojmbbaaGreatDoor

namespace Go.Proofs.YtmlfeljhojmbbaaGreatDoor
open Go.RowKit Go.Maps Go.Sort
set_option linter.unusedSimpArgs false
set_option linter.unusedVariables false
set_option maxRecDepth 100000

section
variable {w w' : World} {gl gd Z : Nat} {H : List Nat} {d : Ds} {l : List Nat} {dead : Bool}
/-- a step of the disk alone -/
theorem LD.disk2 (h : LD w gl gd Z H d l dead) : ∃ F, DD w gd F d ∧ (∀ x ∈ F, x ∈ H ∧ x ≠ gl) ∧ ∀ {w' : World} {d' : Ds}, DStp w w' gd F d' → LStp w w' gl gd Z H d' l dead := by
  obtain ⟨⟨F, A, c, h1, h2, h3, h4⟩, h5, h6, h7, h8⟩ := h
  refine ⟨F, h1, h3, ?_⟩
  rintro w' d' ⟨F', q1, q2, q3⟩
  have hgl : gl < w.heap.size := h2.blk.lt
  refine ⟨gl :: F' ++ H, ⟨⟨F', A, c, q1, ⟨q2.blk h2.blk (fun hx => (h3 _ hx).2 rfl), ?_, h2.le⟩, ?_, ?_⟩, ?_, ?_, Nat.le_trans h7 q2.size, h8.below (q2.below (Below.refl _ _) (fun x hx => h6 x (h3 x hx).1) h7)⟩, q2.mono fun x hx => (h3 x hx).1, ?_⟩
  · intro hne
    obtain ⟨a, rfl, hc⟩ := h2.rd hne
    have hl : l ≠ [] := fun e => hne (by rw [e]; rfl)
    obtain ⟨ha, _, _⟩ := h4 a rfl hl
    refine ⟨a, rfl, fun j u hu => ?_⟩
    have h9 := hc j u hu
    have hlt := World.block_lt_of_cell? w _ h9
    rw [← h9]
    exact World.cell?_of_block (w := w) (q2.block _ hlt (fun hx => by rw [block_of_add] at hx; exact ha hx))
  · intro x hx
    refine ⟨by simp [hx], ?_⟩
    rcases q3 x hx with h | h
    · exact (h3 x h).2
    · omega
  · intro a ha hl
    obtain ⟨b1, b2, b3⟩ := h4 a ha hl
    refine ⟨fun hx => ?_, b2, by simp [b3]⟩
    rcases q3 _ hx with h | h
    · exact b1 h
    · have hne : its l ≠ [] := fun e => hl (by simpa [its] using e)
      obtain ⟨a', e', hc⟩ := h2.rd hne
      rw [ha] at e'
      injection e' with e'
      subst e'
      cases l with
      | nil => exact hl rfl
      | cons n l =>
        have h9 := World.block_lt_of_cell? w _ (hc 0 (.int .i64 (n : Int)) rfl)
        rw [block_of_add] at h9
        omega
  · simp
  · intro x hx
    simp only [List.cons_append, List.mem_cons, List.mem_append] at hx
    rcases hx with rfl | hx | hx
    · exact h6 _ h5
    · rcases q3 x hx with h | h
      · exact h6 x (h3 x h).1
      · omega
    · exact h6 x hx
  · intro x hx
    simp only [List.cons_append, List.mem_cons, List.mem_append] at hx
    rcases hx with rfl | hx | hx
    · exact .inl h5
    · rcases q3 x hx with h | h
      · exact .inl (h3 x h).1
      · exact .inr h
    · exact .inl hx
end
/-- the disk of files.New -/
def d0 : Ds := ⟨[], 0, 1048576, -1, -1⟩
theorem below_kb {w0 w w' : World} {H : List Nat} (h : Below w0.heap.size w0 w) (hk : Kb w w' H) (hH : ∀ x ∈ H, w0.heap.size ≤ x) : Below w0.heap.size w0 w' := hk.below h hH h.size
end Go.Proofs.YtmlfeljhojmbbaaGreatDoor

namespace Go.Proofs.YtmlfeljhojmbbaaGreatDoor
open Go.RowKit Go.Maps Go.Sort
set_option linter.unusedSimpArgs false
set_option linter.unusedVariables false
set_option maxRecDepth 100000

theorem eqfunc_calls (A B : Option Addr) (n m c d : Nat) (vs us : List Value) (rs ss : List (List UInt8)) (P Q : Nat → Prop) (w : World) (h1 : Rd w A vs) (r1 : RwV w P vs rs) (h2 : Rd w B us) (r2 : RwV w Q us ss) (hn : rs.length = n) (hm : ss.length = m) (hn9 : n ≤ 1000000000) (hm9 : m ≤ 1000000000) :
    Calls Tryz.prog 62 #[.slice A n c, .slice B m d, .func (.func 63) #[] #[]] w fun e w' => e = .returned (.bool (decide (rs = ss))) ∧ w = w' := by
  have H1 := Shut.mk h1
  have H2 := Shut.mk h2
  have R1 := Shut.mk r1
  have R2 := Shut.mk r2
  have HN := Shut.mk hn
  have HM := Shut.mk hm
  clear h1 h2 r1 r2 hn hm
  by_cases hnm : n = m
  · subst hnm
    go_enter Tryz.func62, Tryz.ntmps62
    go_wp2_with fail
    go_loopw [17] (fun i wr => ∃ k : Nat, k ≤ n ∧ i = .int .i64 k ∧ wr = w ∧ Shut (rs.take k = ss.take k)) (fun i _ => n - (intOf i).toNat)
    case atStart => exact ⟨0, Nat.zero_le _, rfl, by trivial, ⟨rfl⟩⟩
    case round =>
      obtain ⟨k, hk, rfl, rfl, HTK⟩ := hrel
      by_cases hlt : k < n
      · obtain ⟨A1, c1, hv1, hc1, hr1, _⟩ := R1.out.2 k (by rw [HN.out]; exact hlt)
        obtain ⟨A2, c2, hv2, hc2, hr2, _⟩ := R2.out.2 k (by rw [HM.out]; exact hlt)
        obtain ⟨a1, hA1, hd1⟩ := H1.out (fun e => by rw [e] at hv1; simp at hv1)
        obtain ⟨a2, hA2, hd2⟩ := H2.out (fun e => by rw [e] at hv2; simp at hv2)
        subst hA1
        subst hA2
        have q1 := hd1 k _ hv1
        have q2 := hd2 k _ hv2
        have hk1 : k < rs.length := by rw [HN.out]; exact hlt
        have hk2 : k < ss.length := by rw [HM.out]; exact hlt
        obtain ⟨x, hx⟩ : ∃ x, x = rs[k] := ⟨_, rfl⟩
        obtain ⟨y, hy⟩ : ∃ y, y = ss[k] := ⟨_, rfl⟩
        rw [← hx] at q1 hr1
        rw [← hy] at q2 hr2
        have HX := Shut.mk hx
        have HY := Shut.mk hy
        obtain ⟨X, hX⟩ : ∃ X, X = x.length := ⟨_, rfl⟩
        obtain ⟨Y, hY⟩ : ∃ Y, Y = y.length := ⟨_, rfl⟩
        rw [← hX] at q1
        rw [← hY] at q2
        have HEQ := Shut.mk (equal_calls A1 A2 X c1 Y c2 x y wr hr1 hr2 hX.symm hY.symm)
        have hkI : (k : Int) < (n : Int) := by omega
        clear hv1 hv2 hc1 hc2 hr1 hr2 hd1 hd2 hx hy hX hY
        go_wp2_with fail
        refine HEQ.out.mono ?_
        rintro e w' ⟨rfl, rfl⟩
        by_cases hxy : x = y
        · rw [show (x == y) = true by rw [beq_iff_eq]; exact hxy]
          have HT2 : Shut (rs.take (k + 1) = ss.take (k + 1)) := ⟨by rw [List.take_succ_eq_append_getElem hk1, List.take_succ_eq_append_getElem hk2, HTK.out, ← HX.out, ← HY.out, hxy]⟩
          clear hxy
          go_wp2_with fail
          go_roundw
          case rel => exact ⟨k + 1, by omega, by go_num, by trivial, HT2⟩
          case measure => first | (simp [intOf]; done) | (simp [intOf]; omega)
        · rw [show (x == y) = false by rw [beq_eq_false_iff_ne]; exact hxy]
          have HF : Shut (decide (rs = ss) = false) := ⟨decide_eq_false fun e => hxy (by rw [HX.out, HY.out]; subst e; rfl)⟩
          clear hxy
          go_wp2_with fail
          go_ret
          exact ⟨by rw [HF.out]; rfl, rfl⟩
      · obtain rfl : k = n := by omega
        have HF : Shut (decide (rs = ss) = true) := ⟨decide_eq_true (by
          have := HTK.out
          rwa [List.take_of_length_le (by rw [HN.out]; exact Nat.le_refl _), List.take_of_length_le (by rw [HM.out]; exact Nat.le_refl _)] at this)⟩
        go_wp2_with fail
        go_ret
        exact ⟨by rw [HF.out]; rfl, rfl⟩
  · have HF : Shut (decide (rs = ss) = false) := ⟨decide_eq_false fun e => hnm (by rw [← HN.out, ← HM.out, e])⟩
    have hnmI : ¬ (n : Int) = (m : Int) := by omega
    go_enter Tryz.func62, Tryz.ntmps62
    go_wp2_with fail
    go_ret
    exact ⟨by rw [HF.out]; rfl, rfl⟩
theorem same_calls (A B : Option Addr) (n m c d : Nat) (vs us : List Value) (rs ss : List (List UInt8)) (P Q : Nat → Prop) (w : World) (h1 : Rd w A vs) (r1 : RwV w P vs rs) (h2 : Rd w B us) (r2 : RwV w Q us ss) (hn : rs.length = n) (hm : ss.length = m) (hn9 : n ≤ 1000000000) (hm9 : m ≤ 1000000000) :
    Calls Tryz.prog 18 #[.slice A n c, .slice B m d] w fun e w' => e = .returned (.bool (decide (rs = ss))) ∧ w = w' := by
  have HE := Shut.mk (eqfunc_calls A B n m c d vs us rs ss P Q w h1 r1 h2 r2 hn hm hn9 hm9)
  clear h1 r1 h2 r2 hn hm
  go_enter Tryz.func18, Tryz.ntmps18
  go_wp2_with fail
  refine HE.out.mono ?_
  rintro e w' ⟨rfl, rfl⟩
  go_wp2_with fail
  go_ret
  exact ⟨rfl, rfl⟩
end Go.Proofs.YtmlfeljhojmbbaaGreatDoor

namespace Go.Proofs.YtmlfeljhojmbbaaGreatDoor
open Go.RowKit Go.Maps Go.Sort
set_option linter.unusedSimpArgs false
set_option linter.unusedVariables false
set_option maxRecDepth 100000

section
variable {w w' : World} {gd : Nat} {F : List Nat} {d : Ds}
end
end Go.Proofs.YtmlfeljhojmbbaaGreatDoor

namespace Go.Proofs.YtmlfeljhojmbbaaGreatDoor
open Go.RowKit Go.Maps Go.Sort
set_option linter.unusedSimpArgs false
set_option linter.unusedVariables false
set_option maxRecDepth 100000

section
variable {d d' : Ds} {cs : List (Nat × List (List UInt8))} {m j : Nat} {rm : List (List UInt8)} {B : Option (List UInt8)}
end
end Go.Proofs.YtmlfeljhojmbbaaGreatDoor

namespace Go.Proofs.YtmlfeljhojmbbaaGreatDoor
open Go.RowKit Go.Maps Go.Sort
set_option linter.unusedSimpArgs false
set_option linter.unusedVariables false
set_option maxRecDepth 100000

section
variable {w0 w w' : World} {gl gd : Nat} {d : Ds} {cs : List (Nat × List (List UInt8))} {m j : Nat} {rm : List (List UInt8)} {dead : Bool} {N U : Nat}
end
end Go.Proofs.YtmlfeljhojmbbaaGreatDoor

namespace Go.Proofs.YtmlfeljhojmbbaaGreatDoor
open Go.RowKit Go.Maps Go.Sort
set_option linter.unusedSimpArgs false
set_option linter.unusedVariables false
set_option maxRecDepth 100000

section
variable {w0 w w' : World} {gl gd : Nat} {d : Ds} {cs : List (Nat × List (List UInt8))} {m j : Nat} {rm : List (List UInt8)} {dead : Bool} {N U : Nat}
end
section
variable {w0 w w' : World} {gl gd : Nat} {d d' : Ds} {cs cs' : List (Nat × List (List UInt8))} {m m' j j' : Nat} {rm rm' : List (List UInt8)} {dead dead' : Bool} {N U N' U' : Nat} {u u' : Value} {ws : List (List UInt8)}
end
theorem rd_take7 {w : World} {A : Option Addr} {vs : List Value} (h : Rd w A vs) (n : Nat) : Rd w A (vs.take n) := by
  intro hne
  have hne2 : vs ≠ [] := fun e => hne (by rw [e]; simp)
  obtain ⟨a, e, hc⟩ := h hne2
  refine ⟨a, e, fun j u hu => hc j u ?_⟩
  rw [List.getElem?_take] at hu
  split at hu
  · exact hu
  · cases hu
end Go.Proofs.YtmlfeljhojmbbaaGreatDoor

namespace Go.Proofs.YtmlfeljhojmbbaaGreatDoor
open Go.RowKit Go.Maps Go.Sort
set_option linter.unusedSimpArgs false
set_option linter.unusedVariables false
set_option maxRecDepth 100000

end Go.Proofs.YtmlfeljhojmbbaaGreatDoor

namespace Go.Proofs.YtmlfeljhojmbbaaGreatDoor
open Go.RowKit Go.Maps Go.Sort
set_option linter.unusedSimpArgs false
set_option linter.unusedVariables false
set_option maxRecDepth 100000

section
variable {w w' : World} {gl gd Z : Nat} {H R M : List Nat} {d : Ds} {l : List Nat} {dead : Bool}
end
end Go.Proofs.YtmlfeljhojmbbaaGreatDoor

namespace Go.Proofs.YtmlfeljhojmbbaaGreatDoor
open Go.RowKit Go.Maps Go.Sort
set_option linter.unusedSimpArgs false
set_option linter.unusedVariables false
set_option maxRecDepth 100000

section
variable {d d' : Ds} {cs : List (Nat × List (List UInt8))} {m j : Nat} {rm rs : List (List UInt8)}
end
section
variable {w w' : World} {gl gd Z : Nat} {H : List Nat} {d : Ds} {cs : List (Nat × List (List UInt8))} {m : Nat} {rm : List (List UInt8)}
end
end Go.Proofs.YtmlfeljhojmbbaaGreatDoor

namespace Go.Proofs.YtmlfeljhojmbbaaGreatDoor
open Go.RowKit Go.Maps Go.Sort
set_option linter.unusedSimpArgs false
set_option linter.unusedVariables false
set_option maxRecDepth 100000

/-- a log and two rows of records beside it -/
structure Lt (w0 w : World) (gl gd : Nat) (H : List Nat) (d : Ds) (l : List Nat) (dead : Bool) (u : Value) (ws : List (List UInt8)) (v : Value) (fs : List (List UInt8)) : Prop where
  ld : LD w gl gd w0.heap.size H d l dead
  lt : ∀ x ∈ H, x < w.heap.size
  below : Below w0.heap.size w0 w
  nu : ∀ g, u.ownBlock = some g → g ∉ H
  ru : Recs w w0.heap.size (fun x => x < w0.heap.size) u ws
  nv : ∀ g, v.ownBlock = some g → g ∉ H
  rv : Recs w w0.heap.size (fun x => x < w0.heap.size) v fs
  uv : ∀ g, u.ownBlock = some g → v.ownBlock ≠ some g
section
variable {w0 w w' : World} {gl gd : Nat} {H : List Nat} {d d' : Ds} {l l' : List Nat} {cs : List (Nat × List (List UInt8))} {m j : Nat} {rm : List (List UInt8)} {dead dead' : Bool} {N U : Nat} {u v : Value} {ws fs : List (List UInt8)}
theorem Recs.lt {w : World} {lo : Nat} {P : Nat → Prop} {u : Value} {rs : List (List UInt8)} (h : Recs w lo P u rs) {g : Nat} (hg : u.ownBlock = some g) : g < w.heap.size := by
  obtain ⟨vs, ho, _⟩ := h
  exact ho.block_lt hg
theorem Lt.quiet (h : Lt w0 w gl gd H d l dead u ws v fs) (hb : Below w.heap.size w w') : Lt w0 w' gl gd H d l dead u ws v fs :=
  ⟨h.ld.quiet hb, fun x hx => Nat.lt_of_lt_of_le (h.lt x hx) hb.size, h.below.trans (hb.mono h.below.size), h.nu, h.ru.quiet hb, h.nv, h.rv.quiet hb, h.uv⟩
/-- the log goes on, the rows stand -/
theorem Lt.step (h : Lt w0 w gl gd H d l dead u ws v fs) (hst : LStp w w' gl gd w0.heap.size H d' l' dead') : ∃ H', Lt w0 w' gl gd H' d' l' dead' u ws v fs := by
  obtain ⟨H', g1, g2, g3⟩ := hst
  obtain ⟨H2, g4, g5, g6⟩ := g1.trim
  have hz : ∀ x, x < w0.heap.size → x < w.heap.size → x ∉ H := fun x hx _ hxH => by
    have := h.ld.z x hxH
    omega
  have hn : ∀ g, g < w.heap.size → g ∉ H → g ∉ H2 := fun g hl hg hx => (g3 g (g5 g hx)).elim hg (fun h2 => by omega)
  exact ⟨H2, g4, g6, below_kb h.below g2 h.ld.z, fun g hg => hn g (h.ru.lt hg) (h.nu g hg), h.ru.kept g2 h.nu hz, fun g hg => hn g (h.rv.lt hg) (h.nv g hg), h.rv.kept g2 h.nv hz, h.uv⟩
/-- SameTexts of two rows -/
theorem same_recs {lo lo' : Nat} {P P' : Nat → Prop} {u v : Value} {ws fs : List (List UInt8)} (h : Recs w lo P u ws) (h' : Recs w lo' P' v fs) (hn : ws.length ≤ 1000000000) (hn' : fs.length ≤ 1000000000) :
    Calls Tryz.prog 18 #[u, v] w fun e w' => e = .returned (.bool (decide (ws = fs))) ∧ w = w' := by
  obtain ⟨vs1, ho1, hr1, _⟩ := h
  obtain ⟨vs2, ho2, hr2, _⟩ := h'
  obtain ⟨A, c, rfl, h1, _⟩ := ho1.form
  obtain ⟨A', c', rfl, h2, _⟩ := ho2.form
  exact same_calls A A' _ _ c c' vs1 vs2 ws fs _ _ w h1 hr1 h2 hr2 rfl rfl hn hn'
end
end Go.Proofs.YtmlfeljhojmbbaaGreatDoor

namespace Go.Proofs.YtmlfeljhojmbbaaGreatDoor
open Go.RowKit Go.Maps Go.Sort
set_option linter.unusedSimpArgs false
set_option linter.unusedVariables false
set_option maxRecDepth 100000

section
variable {w0 w w' : World} {gl gd Z : Nat} {H : List Nat} {d d' : Ds} {l : List Nat} {cs : List (Nat × List (List UInt8))} {m j : Nat} {rm : List (List UInt8)} {dead : Bool} {N U : Nat} {u v : Value} {ws fs : List (List UInt8)}
theorem Recs.at_ {lo i : Nat} {P : Nat → Prop} {u : Value} {rs : List (List UInt8)} (h : Recs w lo P u rs) (hi : i < rs.length) : ∃ A c, (∀ Ab n cb, u = .slice (some Ab) n cb → w.cell? (Ab.add i) = some (.slice A (rs[i]).length c)) ∧ (∃ Ab, ∀ A n cb, u = .slice A n cb → A = some Ab) ∧ RdB w A rs[i] ∧ (rs[i]).length ≤ c ∧ ∀ a, A = some a → P a.block := by
  obtain ⟨vs, ho, hr, _⟩ := h
  obtain ⟨A, c, hv1, hc1, hr1, hp⟩ := hr.2 i hi
  obtain ⟨Ab, cb, rfl, hrd, _⟩ := ho.form
  obtain ⟨a, ha, hd⟩ := hrd (fun e => by rw [e] at hv1; simp at hv1)
  subst ha
  exact ⟨A, c, fun Ab n cb e => by cases e; exact hd i _ hv1, ⟨a, fun A n cb e => by cases e; rfl⟩, hr1, hc1, fun a ha => (hp a ha).1⟩
end
/-- the cells behind some -/
theorem rd_drop7 {w : World} {a : Addr} {vs : List Value} (h : Rd w (some a) vs) (n : Nat) : Rd w (some (a.add n)) (vs.drop n) := by
  intro hne
  have hne2 : vs ≠ [] := fun e => hne (by rw [e]; simp)
  obtain ⟨a', e, hc⟩ := h hne2
  cases e
  refine ⟨_, rfl, fun j u hu => ?_⟩
  rw [List.getElem?_drop] at hu
  have := hc (n + j) u hu
  rwa [← add_of_add] at this
section
variable {w0 w w' : World} {gd : Nat} {d : Ds} {N U : Nat} {u v : Value} {ws fs : List (List UInt8)}
end
end Go.Proofs.YtmlfeljhojmbbaaGreatDoor

namespace Go.Proofs.YtmlfeljhojmbbaaGreatDoor
open Go.RowKit Go.Maps Go.Sort
set_option linter.unusedSimpArgs false
set_option linter.unusedVariables false
set_option maxRecDepth 100000

/-- a manifest's write, as far as the disk goes -/
def dWr (d : Ds) (ss : List Nat) : Int × Ds := if (wrt3 d ss).1 = 0 then (0, (wrt3 d ss).2) else ((wrt3 d ss).1, (dDel (wrt3 d ss).2 freshN).2)
theorem lWrite_e (d : Ds) (l : List Nat) (dead : Bool) (ss : List Nat) : (lWrite d l dead ss).1 = (dWr d ss).1 := by
  unfold lWrite dWr
  split <;> rfl
theorem lWrite_d (d : Ds) (l : List Nat) (dead : Bool) (ss : List Nat) : (lWrite d l dead ss).2.1 = (dWr d ss).2 := by
  unfold lWrite dWr
  split <;> rfl
theorem lWrite_l (d : Ds) (l : List Nat) (dead : Bool) (ss : List Nat) (h : (dWr d ss).1 = 0) : (lWrite d l dead ss).2.2.1 = ss := by
  unfold lWrite dWr at *
  split
  · rfl
  · rename_i h1
    rw [if_neg h1] at h
    exact absurd h h1
/-- syncs of segments that have files -/
def sSyn (d : Ds) : List Nat → Int × Ds
  | [] => (0, d)
  | n :: r => if (look d.S (seg n)).isSome = true then (if (dSync d (seg n)).1 = 0 then sSyn (dSync d (seg n)).2 r else dSync d (seg n)) else sSyn d r
/-- a segment's cut, and what is behind it goes -/
def sCut (d : Ds) (n : Nat) (pre r : List Nat) : Int × Ds :=
  if (dCut d (seg n) (wl d n)).1 = 0 then
    (if r = [] then (0, (dCut d (seg n) (wl d n)).2)
     else if (dWr (dCut d (seg n) (wl d n)).2 pre).1 = 0 then lRem (dWr (dCut d (seg n) (wl d n)).2 pre).2 r
     else dWr (dCut d (seg n) (wl d n)).2 pre)
  else dCut d (seg n) (wl d n)
/-- the records, up to the first bad bytes -/
def sScn (d : Ds) (pre : List Nat) : List Nat → Int × List Nat × List (List UInt8) × Ds
  | [] => (0, pre, [], d)
  | n :: r => if wl d n = (cont d n).length then ((sScn d (pre ++ [n]) r).1, (sScn d (pre ++ [n]) r).2.1, rdL (cont d n) ++ (sScn d (pre ++ [n]) r).2.2.1, (sScn d (pre ++ [n]) r).2.2.2)
    else ((sCut d n (pre ++ [n]) r).1, pre ++ [n], rdL (cont d n), (sCut d n (pre ++ [n]) r).2)
def gScan (d : Ds) (l : List Nat) : Int × List (List UInt8) × Ds :=
  if (sScn d [] l).1 = 0 then
    (if (sSyn (sScn d [] l).2.2.2 (sScn d [] l).2.1).1 = 0 then (0, (sScn d [] l).2.2.1, (sSyn (sScn d [] l).2.2.2 (sScn d [] l).2.1).2)
     else ((sSyn (sScn d [] l).2.2.2 (sScn d [] l).2.1).1, [], (sSyn (sScn d [] l).2.2.2 (sScn d [] l).2.1).2))
  else ((sScn d [] l).1, [], (sScn d [] l).2.2.2)
/-- the files that are not the log's go -/
def sRmv (mine : List (List UInt8)) (d : Ds) : List (List UInt8) → Int × Ds
  | [] => (0, d)
  | s :: r => if s ∈ mine then sRmv mine d r else if (dDel d s).1 = 0 then sRmv mine (dDel d s).2 r else dDel d s
/-- Open: the error, the records, the disk behind it -/
def gOpen1 (d : Ds) : Int × List (List UInt8) × Ds :=
  match look d.S manN with
  | none => if lsD d = [] then ((dWr d [1]).1, [], (dWr d [1]).2) else (70, [], d)
  | some p => match prsL p.1 with
    | none => (70, [], d)
    | some ss => if (sRmv (mineL ss) d (lsD d)).1 = 0 then gScan (sRmv (mineL ss) d (lsD d)).2 ss else ((sRmv (mineL ss) d (lsD d)).1, [], (sRmv (mineL ss) d (lsD d)).2)
def gOpen (d : Ds) : Int × List (List UInt8) × Ds :=
  if (look d.S freshN).isSome = true then (if (dDel d freshN).1 = 0 then gOpen1 (dDel d freshN).2 else ((dDel d freshN).1, [], (dDel d freshN).2)) else gOpen1 d
/-- the first k segments are whole -/
theorem sScn_skip (d : Ds) : ∀ (k : Nat) (pre l : List Nat), k ≤ l.length → (∀ j, (hj : j < l.length) → j < k → whole d l[j]) →
    sScn d pre l = ((sScn d (pre ++ l.take k) (l.drop k)).1, (sScn d (pre ++ l.take k) (l.drop k)).2.1, recsL d (l.take k) ++ (sScn d (pre ++ l.take k) (l.drop k)).2.2.1, (sScn d (pre ++ l.take k) (l.drop k)).2.2.2)
  | 0, pre, l, _, _ => by simp [recsL]
  | k + 1, pre, [], h, _ => by simp at h
  | k + 1, pre, n :: r, h, hw => by
    have h0 : whole d n := hw 0 (by simp) (by omega)
    have ih := sScn_skip d k (pre ++ [n]) r (by simpa using h) (fun j hj hjk => hw (j + 1) (by simpa using hj) (by omega))
    rw [show sScn d pre (n :: r) = ((sScn d (pre ++ [n]) r).1, (sScn d (pre ++ [n]) r).2.1, rdL (cont d n) ++ (sScn d (pre ++ [n]) r).2.2.1, (sScn d (pre ++ [n]) r).2.2.2) from if_pos h0]
    rw [ih]
    simp [recsL, List.append_assoc]
theorem sScn_all (d : Ds) (l : List Nat) (hw : ∀ j, (hj : j < l.length) → whole d l[j]) : sScn d [] l = (0, l, recsL d l, d) := by
  rw [sScn_skip d l.length [] l (Nat.le_refl _) (fun j hj _ => hw j hj)]
  simp [sScn]
theorem sScn_at (d : Ds) (l : List Nat) (k : Nat) (hk : k < l.length) (hw : ∀ j, (hj : j < l.length) → j < k → whole d l[j]) (hn : ¬ whole d l[k]) :
    sScn d [] l = ((sCut d l[k] (l.take (k + 1)) (l.drop (k + 1))).1, l.take (k + 1), recsL d (l.take (k + 1)), (sCut d l[k] (l.take (k + 1)) (l.drop (k + 1))).2) := by
  rw [sScn_skip d k [] l (Nat.le_of_lt hk) hw]
  have e1 : l.drop k = l[k] :: l.drop (k + 1) := List.drop_eq_getElem_cons hk
  have e2 : l.take (k + 1) = l.take k ++ [l[k]] := by rw [List.take_succ_eq_append_getElem hk]
  rw [e1, List.nil_append]
  rw [show sScn d (l.take k) (l[k] :: l.drop (k + 1)) = ((sCut d l[k] (l.take k ++ [l[k]]) (l.drop (k + 1))).1, l.take k ++ [l[k]], rdL (cont d l[k]), (sCut d l[k] (l.take k ++ [l[k]]) (l.drop (k + 1))).2) from if_neg hn]
  have e3 : recsL d (l.take (k + 1)) = recsL d (l.take k) ++ rdL (cont d l[k]) := by
    rw [e2, recsL, List.flatMap_append]
    simp [recsL]
  rw [e3, e2]
theorem OkN.wrt {d : Ds} {k : Nat} (h : OkN d (k + 2)) (ss : List Nat) : OkN (wrt3 d ss).2 k := by
  have h1 := h.app (k := k + 1) freshN (frm (manB ss))
  have h2 := h1.sync freshN
  have h3 := h2.ren (k := k) freshN manN
  unfold wrt3
  split
  · exact h1.mono (by omega)
  · split
    · exact h2.mono (by omega)
    · exact h3
theorem OkN.wr {d : Ds} {k : Nat} (h : OkN d (k + 2)) (ss : List Nat) : OkN (dWr d ss).2 k := by
  unfold dWr
  split
  · exact h.wrt ss
  · exact (h.wrt ss).del freshN
theorem OkN.rem {k : Nat} : ∀ (l : List Nat) {d : Ds}, OkN d k → OkN (lRem d l).2 k
  | [], d, h => h
  | n :: r, d, h => by
    unfold lRem
    split
    · split
      · exact OkN.rem r (h.del _)
      · exact h.del _
    · exact OkN.rem r h
end Go.Proofs.YtmlfeljhojmbbaaGreatDoor

namespace Go.Proofs.YtmlfeljhojmbbaaGreatDoor
open Go.RowKit Go.Maps Go.Sort
set_option linter.unusedSimpArgs false
set_option linter.unusedVariables false
set_option maxRecDepth 100000

theorem gScan_ok {d d0 : Ds} {l l2 : List Nat} {rs : List (List UInt8)} (h : sScn d [] l = (0, l2, rs, d0)) (h2 : (sSyn d0 l2).1 = 0) : gScan d l = (0, rs, (sSyn d0 l2).2) := by
  unfold gScan
  rw [h]
  exact (if_pos rfl).trans (if_pos h2)
theorem gScan_bad {d d0 : Ds} {l l2 : List Nat} {rs : List (List UInt8)} {E : Int} (h : sScn d [] l = (E, l2, rs, d0)) (hE : ¬ E = 0) : gScan d l = (E, [], d0) := by
  unfold gScan
  rw [h]
  exact if_neg hE
theorem gScan_bad2 {d d0 : Ds} {l l2 : List Nat} {rs : List (List UInt8)} (h : sScn d [] l = (0, l2, rs, d0)) (h2 : ¬ (sSyn d0 l2).1 = 0) : gScan d l = ((sSyn d0 l2).1, [], (sSyn d0 l2).2) := by
  unfold gScan
  rw [h]
  exact (if_pos rfl).trans (if_neg h2)
/-- what scan leaves -/
def ScnTo (w w' : World) (gl gd Z : Nat) (H : List Nat) (R : Int × List (List UInt8) × Ds) (e : Ending) : Prop :=
  ∃ v H' l' dead', e = .returned (.tuple #[v, .int .i64 R.1]) ∧ Recs w' w.heap.size (fun x => w.heap.size ≤ x ∧ x ∉ H') v R.2.1 ∧ (∀ g, v.ownBlock = some g → g ∉ H') ∧ LD w' gl gd Z H' R.2.2 l' dead' ∧ Kb w w' H ∧ ∀ x ∈ H', x ∈ H ∨ w.heap.size ≤ x
/-- a log and a row of records, while scan goes on -/
structure Sst (w : World) (B : Nat) (w2 : World) (gl gd Z : Nat) (H H2 : List Nat) (d : Ds) (l : List Nat) (dead : Bool) (u : Value) (rs : List (List UInt8)) : Prop where
  ld : LD w2 gl gd Z H2 d l dead
  lt : ∀ x ∈ H2, x < w2.heap.size
  kb : Kb w w2 H
  sub : ∀ x ∈ H2, x ∈ H ∨ B ≤ x
  lo : w.heap.size ≤ B
  hi : B ≤ w2.heap.size
  hH : ∀ x ∈ H, x < w.heap.size
  rc : Recs w2 w.heap.size (fun x => w.heap.size ≤ x ∧ x < B) u rs
  own : ∀ g, u.ownBlock = some g → g < B
section
variable {w w2 w3 : World} {B gl gd Z : Nat} {H H2 : List Nat} {d d' : Ds} {l l' : List Nat} {dead dead' : Bool} {u : Value} {rs : List (List UInt8)}
theorem Sst.free (h : Sst w B w2 gl gd Z H H2 d l dead u rs) {x : Nat} (h1 : w.heap.size ≤ x) (h2 : x < B) : x ∉ H2 := fun hx => by
  rcases h.sub x hx with h3 | h3
  · have := h.hH x h3
    omega
  · omega
theorem Sst.ownlo (h : Sst w B w2 gl gd Z H H2 d l dead u rs) {g : Nat} (hg : u.ownBlock = some g) : w.heap.size ≤ g := by
  obtain ⟨vs, _, _, hlo⟩ := h.rc
  exact hlo g hg
theorem Sst.quiet (h : Sst w B w2 gl gd Z H H2 d l dead u rs) (hb : Below w2.heap.size w2 w3) : Sst w B w3 gl gd Z H H2 d l dead u rs :=
  ⟨h.ld.quiet hb, fun x hx => Nat.lt_of_lt_of_le (h.lt x hx) hb.size, h.kb.below_ hb, h.sub, h.lo, Nat.le_trans h.hi hb.size, h.hH, h.rc.quiet hb, h.own⟩
/-- the log goes on; blocks of its own may have come to it -/
theorem Sst.stepW (h : Sst w B w2 gl gd Z H H2 d l dead u rs) {X : List Nat} (hX : ∀ x ∈ X, x ∈ H2 ∨ B ≤ x) (hst : LStp w2 w3 gl gd Z X d' l' dead') : ∃ H3, Sst w B w3 gl gd Z H H3 d' l' dead' u rs := by
  obtain ⟨H', g1, g2, g3⟩ := hst
  obtain ⟨H3, g4, g5, g6⟩ := g1.trim
  have hX2 : ∀ x ∈ X, x ∈ H ∨ B ≤ x := fun x hx => (hX x hx).elim (h.sub x) .inr
  have hfr : ∀ x, w.heap.size ≤ x → x < B → x ∉ X := fun x h1 h2 hx => by
    rcases hX2 x hx with h3 | h3
    · have := h.hH x h3
      omega
    · omega
  refine ⟨H3, g4, g6, h.kb.trans g2 (fun x hx => (hX2 x hx).imp id (fun h1 => Nat.le_trans h.lo h1)), fun x hx => ?_, h.lo, Nat.le_trans h.hi g2.size, h.hH, h.rc.kept g2 (fun g hg => hfr g (h.ownlo hg) (h.own g hg)) (fun x hx _ => hfr x hx.1 hx.2), h.own⟩
  rcases g3 x (g5 x hx) with h1 | h1
  · exact hX2 x h1
  · exact .inr (Nat.le_trans h.hi h1)
theorem Sst.step (h : Sst w B w2 gl gd Z H H2 d l dead u rs) (hst : LStp w2 w3 gl gd Z H2 d' l' dead') : ∃ H3, Sst w B w3 gl gd Z H H3 d' l' dead' u rs := h.stepW (fun x hx => .inl hx) hst
theorem Sst.fin (h : Sst w B w2 gl gd Z H H2 d l dead u rs) : ScnTo w w2 gl gd Z H (0, rs, d) (.returned (.tuple #[u, .int .i64 0])) :=
  ⟨u, H2, l, dead, rfl, h.rc.imp (Nat.le_refl _) (fun x hx => ⟨hx.1, h.free hx.1 hx.2⟩), fun g hg => h.free (h.ownlo hg) (h.own g hg), h.ld, h.kb, fun x hx => (h.sub x hx).imp id (fun h1 => Nat.le_trans h.lo h1)⟩
theorem Sst.bad (h : Sst w B w2 gl gd Z H H2 d l dead u rs) (E : Int) : ScnTo w w2 gl gd Z H (E, [], d) (.returned (.tuple #[.slice none 0 0, .int .i64 E])) :=
  ⟨_, H2, l, dead, rfl, Recs.nil _ _ _, (fun g hg => by cases hg), h.ld, h.kb, fun x hx => (h.sub x hx).imp id (fun h1 => Nat.le_trans h.lo h1)⟩
end
theorem clone_ints (b off n c : Nat) (l : List Nat) (w : World) (hl : l.length = n) (hn : n ≤ 100000) (hr : Rd w (some ⟨b, off, none⟩) (its l)) :
    Calls Tryz.prog 52 #[.slice (some ⟨b, off, none⟩) n c] w fun e w' => ∃ A c', e = .returned (.slice A n c') ∧ Rd w' A (its l) ∧ RowOk A n c' ∧ Below w.heap.size w w' ∧ ∀ a, A = some a → w.heap.size ≤ a.block ∧ (l ≠ [] → a.block < w'.heap.size) := by
  refine (sh_CloneI b off n c (l.map (Int.ofNat ·)) w (by rw [List.length_map, hl]; exact Nat.le_refl _) (by omega) (fun j hj => ?_)).mono ?_
  · rw [List.length_map] at hj
    obtain ⟨a, e, hc⟩ := hr (its_ne (fun e => by rw [e] at hj; simp at hj))
    cases e
    have h1 := hc j _ (its_get hj)
    have e : (⟨b, off, none⟩ : Addr).add j = ⟨b, off + j, none⟩ := by
      unfold Addr.add
      split
      · simp [*]
      · rfl
    rw [e] at h1
    rw [h1, List.getD_eq_getElem?_getD, List.getElem?_map, List.getElem?_eq_getElem hj]
    rfl
  · rintro e w' ⟨v, rfl, ho, _, hb⟩
    obtain ⟨ho, hlo⟩ := own_row ho
    rw [show ((l.map (Int.ofNat ·)).take n).map (Value.int .i64) = its l by
      rw [List.take_of_length_le (by rw [List.length_map, hl]; exact Nat.le_refl _), List.map_map]
      rfl] at ho
    obtain ⟨A, c', rfl, hrd, hc, _, hob, _⟩ := ho.form
    refine ⟨A, c', rfl, hrd, ⟨hc, fun a ha => ?_⟩, hb, fun a ha => ⟨hlo a.block (by rw [hob, ha]; rfl), fun hne => ho.block_lt (by rw [hob, ha]; rfl)⟩⟩
    rcases ho.2 with ⟨e1, _⟩ | ⟨g, cap, cur, e1, _⟩
    · cases e1
      cases ha
    · cases e1
      cases ha
      rfl
end Go.Proofs.YtmlfeljhojmbbaaGreatDoor
