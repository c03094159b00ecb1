/- A disk in memory: its block, its map, its files, and what a store, a call, leaves of it. -/
import Derived.Test.YtmlfeljhojmbbaaGreatDoorDisk
import Derived.Test.YtmlfeljhojmbbaaGreatDoorClone
import Derived.Test.YtmlfeljhojmbbaaGreatDoorMake
namespace Go.Proofs.YtmlfeljhojmbbaaGreatDoor
open Go.RowKit Go.Maps
set_option linter.unusedSimpArgs false
set_option linter.unusedVariables false
set_option maxRecDepth 100000

def ef (es : List Ent) : List UInt8 → Option Nat := fun s => (lookE es s).map (·.g)
/-- a disk: its block gd, its map gm, its files es -/
structure DiskAt (w : World) (gd gm n : Nat) (es : List Ent) (room short fuse : Int) : Prop where
  blk : Blk w gd 73 #[.map (some gm), .int .i64 room, .int .i64 short, .int .i64 fuse]
  map : FM w Tryz.prog 9 gm n (ef es)
  file : ∀ e ∈ es, Blk w e.g 106 #[e.v, .int .i64 (e.syn : Int)]
  own : ∀ e ∈ es, Own w 5 1 e.v e.b.length (bys e.b)
  keys : es.Pairwise fun a b => a.key ≠ b.key
  gs : es.Pairwise fun a b => a.g ≠ b.g
  vs : es.Pairwise fun a b => ∀ g, a.v.ownBlock = some g → b.v.ownBlock ≠ some g
  len : ∀ e ∈ es, e.syn ≤ e.b.length ∧ e.b.length ≤ 1048576
  sum : usedE es ≤ 1099511627776
/-- the blocks of a disk -/
def foot (gd gm : Nat) (es : List Ent) : List Nat := gd :: gm :: es.flatMap fun e => e.g :: e.v.ownBlock.toList
theorem foot_ent {gd gm : Nat} {es : List Ent} {e : Ent} (h : e ∈ es) : e.g ∈ foot gd gm es := by
  simp only [foot, List.mem_cons, List.mem_flatMap]
  exact .inr (.inr ⟨e, h, .inl rfl⟩)
theorem foot_own {gd gm : Nat} {es : List Ent} {e : Ent} (h : e ∈ es) {g : Nat} (hg : e.v.ownBlock = some g) : g ∈ foot gd gm es := by
  simp only [foot, List.mem_cons, List.mem_flatMap]
  exact .inr (.inr ⟨e, h, .inr (by simp [hg])⟩)
theorem blk_own_ne {w : World} {gc t : Nat} {cs : Array Value} {v : Value} {n : Nat} {xs : List Value} (hb : Blk w gc t cs) (ht : t ≠ 5) (ho : Own w 5 1 v n xs) : ∀ g, v.ownBlock = some g → g ≠ gc := by
  intro g hg e
  rcases ho.2 with ⟨rfl, _⟩ | ⟨g', cap, cur, rfl, hh, _⟩
  · simp [Value.ownBlock] at hg
  · simp [Value.ownBlock] at hg
    subst hg
    unfold Blk at hb
    rw [e, hb] at hh
    injection hh with hh
    injection hh with _ h2
    exact ht h2
theorem blk_blk_ne {w : World} {g g' t t' : Nat} {cs cs' : Array Value} (h : Blk w g t cs) (h' : Blk w g' t' cs') (ht : t ≠ t') : g ≠ g' := by
  intro e
  unfold Blk at h h'
  rw [e, h'] at h
  injection h with h
  injection h with _ h2
  exact ht h2.symm
theorem blk_map_ne {w : World} {g t b k n : Nat} {cs : Array Value} {P : Program} {f : List UInt8 → Option Nat} (h : Blk w g t cs) (h' : FM w P k b n f) : g ≠ b := by
  intro e
  obtain ⟨es, clock, hh⟩ := h'.isMap
  unfold Blk at h
  rw [e, hh] at h
  injection h with h
  cases h
theorem own_map_ne {w : World} {b k n m : Nat} {v : Value} {xs : List Value} {P : Program} {f : List UInt8 → Option Nat} (h : Own w 5 1 v m xs) (h' : FM w P k b n f) : ∀ g, v.ownBlock = some g → g ≠ b := by
  intro g hg e
  obtain ⟨es, clock, h2⟩ := h'.isMap
  rcases h.2 with ⟨rfl, _⟩ | ⟨g', cap, cur, rfl, hh, _⟩
  · simp [Value.ownBlock] at hg
  · simp [Value.ownBlock] at hg
    subst hg
    rw [e, h2] at hh
    cases hh
section
variable {w w' : World} {gd gm n : Nat} {es : List Ent} {room short fuse : Int}
theorem DiskAt.map_ne (h : DiskAt w gd gm n es room short fuse) : gd ≠ gm := blk_map_ne h.blk h.map
theorem DiskAt.file_ne (h : DiskAt w gd gm n es room short fuse) {e : Ent} (he : e ∈ es) : e.g ≠ gd ∧ e.g ≠ gm := ⟨blk_blk_ne (h.file e he) h.blk (by decide), blk_map_ne (h.file e he) h.map⟩
theorem DiskAt.own_ne (h : DiskAt w gd gm n es room short fuse) {e : Ent} (he : e ∈ es) {g : Nat} (hg : e.v.ownBlock = some g) : g ≠ gd ∧ g ≠ gm ∧ ∀ e' ∈ es, g ≠ e'.g :=
  ⟨blk_own_ne h.blk (by decide) (h.own e he) g hg, own_map_ne (h.own e he) h.map g hg, fun e' he' => blk_own_ne (h.file e' he') (by decide) (h.own e he) g hg⟩
theorem DiskAt.keep (h : DiskAt w gd gm n es room short fuse) {L : List Nat} (hk : Kb w w' L) (hL : ∀ x ∈ foot gd gm es, x ∉ L) : DiskAt w' gd gm n es room short fuse :=
  ⟨hk.blk h.blk (hL _ (by simp [foot])), h.map.keep (hk.block gm h.map.lt (hL _ (by simp [foot]))), fun e he => hk.blk (h.file e he) (hL _ (foot_ent he)), fun e he => hk.own (h.own e he) fun g hg => hL _ (foot_own he hg), h.keys, h.gs, h.vs, h.len, h.sum⟩
theorem DiskAt.below (h : DiskAt w gd gm n es room short fuse) (hb : Below w.heap.size w w') : DiskAt w' gd gm n es room short fuse := h.keep (Kb.of_below hb []) (by simp)
theorem DiskAt.lt (h : DiskAt w gd gm n es room short fuse) {x : Nat} (hx : x ∈ foot gd gm es) : x < w.heap.size := by
  simp only [foot, List.mem_cons, List.mem_flatMap] at hx
  rcases hx with rfl | rfl | ⟨e, he, rfl | hx⟩
  · exact h.blk.lt
  · exact h.map.lt
  · exact (h.file e he).lt
  · exact (h.own e he).block_lt (by simpa using hx)
/-- a number of the disk's own is written -/
theorem DiskAt.setd (h : DiskAt w gd gm n es room short fuse) (i : Nat) (u : Value) {room' short' fuse' : Int} (hc : (#[.map (some gm), .int .i64 room, .int .i64 short, .int .i64 fuse] : Array Value).setIfInBounds i u = #[.map (some gm), .int .i64 room', .int .i64 short', .int .i64 fuse']) :
    DiskAt (w.setCell ⟨gd, i, none⟩ u) gd gm n es room' short' fuse' := by
  have hk : Kb w (w.setCell ⟨gd, i, none⟩ u) [gd] := (Kb.refl w _).setCell (by simp) u
  refine ⟨hc ▸ h.blk.set_ i u, h.map.keep (hk.block gm h.map.lt (by simpa using h.map_ne.symm)), fun e he => hk.blk (h.file e he) (by simpa using (h.file_ne he).1), fun e he => hk.own (h.own e he) fun g hg => (by simpa using (h.own_ne he hg).1), h.keys, h.gs, h.vs, h.len, h.sum⟩
end

/-! ### entries -/
theorem uniq {es : List Ent} (hp : es.Pairwise fun a b => a.key ≠ b.key) {a b : Ent} (ha : a ∈ es) (hb : b ∈ es) (h : a.key = b.key) : a = b := by
  induction es with
  | nil => cases ha
  | cons x r ih =>
    rw [List.pairwise_cons] at hp
    rcases List.mem_cons.1 ha with rfl | ha'
    · rcases List.mem_cons.1 hb with rfl | hb'
      · rfl
      · exact absurd h (hp.1 b hb')
    · rcases List.mem_cons.1 hb with rfl | hb'
      · exact absurd h.symm (hp.1 a ha')
      · exact ih hp.2 ha' hb'
theorem lookE_of_mem {es : List Ent} (hp : es.Pairwise fun a b => a.key ≠ b.key) {e : Ent} (he : e ∈ es) : lookE es e.key = some e := by
  cases h : lookE es e.key with
  | none =>
    unfold lookE at h
    rw [List.find?_eq_none] at h
    exact absurd (by simp) (h e he)
  | some e' =>
    obtain ⟨h1, h2⟩ := lookE_mem h
    rw [uniq hp h1 he h2]
theorem lookE_none {es : List Ent} {s : List UInt8} (h : lookE es s = none) : ∀ e ∈ es, e.key ≠ s := by
  intro e he
  unfold lookE at h
  rw [List.find?_eq_none] at h
  simpa using h e he
theorem lookE_none_of {es : List Ent} {s : List UInt8} (h : ∀ e ∈ es, e.key ≠ s) : lookE es s = none := by
  unfold lookE
  rw [List.find?_eq_none]
  intro e he
  simpa using h e he
/-- the entry of x's name is x -/
def setE (es : List Ent) (x : Ent) : List Ent := es.map fun y => if y.key == x.key then x else y
def delE (es : List Ent) (s : List UInt8) : List Ent := es.filter fun y => !(y.key == s)
theorem setE_mem {es : List Ent} {x y : Ent} (h : y ∈ setE es x) : y = x ∨ (y ∈ es ∧ y.key ≠ x.key) := by
  unfold setE at h
  rw [List.mem_map] at h
  obtain ⟨z, hz, rfl⟩ := h
  by_cases hk : z.key = x.key
  · simp [hk]
  · simp [hk, hz]
theorem delE_mem {es : List Ent} {s : List UInt8} {y : Ent} (h : y ∈ delE es s) : y ∈ es ∧ y.key ≠ s := by
  unfold delE at h
  simpa using h
theorem lookE_set_ne (es : List Ent) {x : Ent} {s : List UInt8} (hs : s ≠ x.key) : lookE (setE es x) s = lookE es s := by
  unfold lookE setE
  induction es with
  | nil => rfl
  | cons y r ih =>
    simp only [List.map_cons, List.find?_cons]
    by_cases hy : y.key = x.key
    · have h1 : (x.key == s) = false := by simpa using fun e => hs e.symm
      have h2 : (y.key == s) = false := by rw [hy]; exact h1
      rw [if_pos (by simpa using hy), h1, h2]
      exact ih
    · rw [if_neg (by simpa using hy), ih]
theorem lookE_set_eq {es : List Ent} {x e : Ent} (h : lookE es x.key = some e) : lookE (setE es x) x.key = some x := by
  unfold lookE setE at *
  induction es with
  | nil => cases h
  | cons y r ih =>
    simp only [List.map_cons, List.find?_cons] at *
    by_cases hy : y.key = x.key
    · rw [if_pos (by simpa using hy)]
      simp
    · have hy' : (y.key == x.key) = false := by simpa using hy
      rw [hy'] at h
      rw [if_neg (by simpa using hy), hy']
      exact ih h
theorem lookE_set {es : List Ent} {x e : Ent} (h : lookE es x.key = some e) (s : List UInt8) : lookE (setE es x) s = if s = x.key then some x else lookE es s := by
  split
  · rename_i hs
    rw [hs]
    exact lookE_set_eq h
  · rename_i hs
    exact lookE_set_ne es hs
theorem pw_of {α : Type} {R : α → α → Prop} (hs : ∀ {a b}, R a b → R b a) {l : List α} (h : l.Pairwise R) {a b : α} (ha : a ∈ l) (hb : b ∈ l) (hne : a ≠ b) : R a b := by
  induction l with
  | nil => cases ha
  | cons x r ih =>
    rw [List.pairwise_cons] at h
    rcases List.mem_cons.1 ha with rfl | ha'
    · rcases List.mem_cons.1 hb with rfl | hb'
      · exact absurd rfl hne
      · exact h.1 b hb'
    · rcases List.mem_cons.1 hb with rfl | hb'
      · exact hs (h.1 a ha')
      · exact ih h.2 ha' hb'
theorem used_set {es : List Ent} (hp : es.Pairwise fun a b => a.key ≠ b.key) {x e : Ent} (h : lookE es x.key = some e) : usedE (setE es x) + e.b.length = usedE es + x.b.length := by
  induction es with
  | nil => cases h
  | cons y r ih =>
    rw [List.pairwise_cons] at hp
    unfold lookE at h
    rw [List.find?_cons] at h
    by_cases hy : y.key = x.key
    · simp [hy] at h
      subst h
      have hr : setE r x = r := by
        unfold setE
        conv => rhs; rw [← List.map_id r]
        refine List.map_congr_left fun z hz => ?_
        have : z.key ≠ x.key := fun e => hp.1 z hz (hy.trans e.symm)
        simp [this]
      have hc : setE (y :: r) x = x :: setE r x := by simp [setE, hy]
      rw [hc, hr]
      simp only [usedE, List.map_cons, List.sum_cons]
      omega
    · have hy' : (y.key == x.key) = false := by simpa using hy
      rw [hy'] at h
      have := ih hp.2 h
      have hc : setE (y :: r) x = y :: setE r x := by simp [setE, hy]
      rw [hc]
      simp only [usedE, List.map_cons, List.sum_cons] at *
      omega
theorem used_append (es fs : List Ent) : usedE (es ++ fs) = usedE es + usedE fs := by simp [usedE]
theorem used_del_le (es : List Ent) (s : List UInt8) : usedE (delE es s) ≤ usedE es := by
  induction es with
  | nil => exact Nat.le_refl _
  | cons y r ih =>
    unfold delE at *
    rw [List.filter_cons]
    split
    · simp only [usedE, List.map_cons, List.sum_cons] at *
      omega
    · simp only [usedE, List.map_cons, List.sum_cons] at *
      omega
theorem used_del {es : List Ent} (hp : es.Pairwise fun a b => a.key ≠ b.key) {s : List UInt8} {e : Ent} (h : lookE es s = some e) : usedE (delE es s) + e.b.length = usedE es := by
  induction es with
  | nil => cases h
  | cons y r ih =>
    rw [List.pairwise_cons] at hp
    unfold lookE at h
    rw [List.find?_cons] at h
    by_cases hy : y.key = s
    · simp [hy] at h
      subst h
      have hr : delE r s = r := by
        unfold delE
        rw [List.filter_eq_self]
        intro z hz
        have : z.key ≠ s := fun e => hp.1 z hz (hy.trans e.symm)
        simpa using this
      have hc : delE (y :: r) s = delE r s := by simp [delE, hy]
      rw [hc, hr]
      simp only [usedE, List.map_cons, List.sum_cons]
      omega
    · have hy' : (y.key == s) = false := by simpa using hy
      rw [hy'] at h
      have := ih hp.2 h
      have hc : delE (y :: r) s = y :: delE r s := by simp [delE, hy]
      rw [hc]
      simp only [usedE, List.map_cons, List.sum_cons] at *
      omega
theorem lookE_del (es : List Ent) (s t : List UInt8) : lookE (delE es s) t = if t = s then none else lookE es t := by
  by_cases h : t = s
  · subst h
    rw [if_pos rfl]
    exact lookE_none_of fun e he => (delE_mem he).2
  · rw [if_neg h]
    unfold lookE delE
    rw [List.find?_filter]
    congr 1
    funext e
    by_cases h2 : e.key = t
    · simp [h2, h]
    · simp [h2]
theorem lookE_add {es : List Ent} {x : Ent} (h : lookE es x.key = none) (s : List UInt8) : lookE (es ++ [x]) s = if s = x.key then some x else lookE es s := by
  unfold lookE at *
  rw [List.find?_append]
  by_cases hs : s = x.key
  · subst hs
    rw [h]
    simp
  · have hs' : (x.key == s) = false := by simpa using fun e => hs e.symm
    simp [hs, hs']
theorem mem_used {es : List Ent} {e : Ent} (h : e ∈ es) : e.b.length ≤ usedE es := by
  induction es with
  | nil => cases h
  | cons y r ih =>
    simp only [usedE, List.map_cons, List.sum_cons] at *
    rcases List.mem_cons.1 h with rfl | h'
    · omega
    · have := ih h'
      omega

section
variable {w w' : World} {gd gm n : Nat} {es : List Ent} {room short fuse : Int}
/-- a file has turned -/
theorem DiskAt.replace (h : DiskAt w gd gm n es room short fuse) {e x : Ent} (he : lookE es x.key = some e) (hg : x.g = e.g) (hk : Kb w w' (e.g :: e.v.ownBlock.toList))
    (hb : Blk w' x.g 106 #[x.v, .int .i64 (x.syn : Int)]) (ho : Own w' 5 1 x.v x.b.length (bys x.b)) (hv : ∀ g, x.v.ownBlock = some g → e.v.ownBlock = some g ∨ w.heap.size ≤ g)
    (hlen : x.syn ≤ x.b.length ∧ x.b.length ≤ 1048576) (hsum : usedE (setE es x) ≤ 1099511627776) : DiskAt w' gd gm n (setE es x) room short fuse := by
  obtain ⟨hm, hkey⟩ := lookE_mem he
  have hL1 : ∀ y ∈ es, y.key ≠ x.key → y.g ∉ e.g :: e.v.ownBlock.toList := by
    intro y hy hne hc
    rcases List.mem_cons.1 hc with e1 | hc
    · have := h.gs
      have hne2 : y ≠ e := fun e2 => hne (e2 ▸ hkey)
      have := pw_of (fun {a b} hab e => hab e.symm) h.gs hy hm hne2
      exact this e1
    · exact (h.own_ne hm (by simpa using hc)).2.2 y hy rfl
  have hL2 : ∀ y ∈ es, y.key ≠ x.key → ∀ g, y.v.ownBlock = some g → g ∉ e.g :: e.v.ownBlock.toList := by
    intro y hy hne g hgy hc
    rcases List.mem_cons.1 hc with e1 | hc
    · exact (h.own_ne hy hgy).2.2 e hm e1
    · have hne2 : y ≠ e := fun e2 => hne (e2 ▸ hkey)
      have := pw_of (fun {a b} hab g h1 h2 => hab g h2 h1) h.vs hy hm hne2
      exact this g hgy (by simpa using hc)
  have hxv : ∀ y ∈ es, y.key ≠ x.key → ∀ g, x.v.ownBlock = some g → y.v.ownBlock ≠ some g := by
    intro y hy hne g hgx hgy
    rcases hv g hgx with h1 | h1
    · exact hL2 y hy hne g hgy (by simp [h1])
    · exact Nat.lt_irrefl _ (Nat.lt_of_lt_of_le ((h.own y hy).block_lt hgy) h1)
  have hpw : ∀ (R : Ent → Ent → Prop), es.Pairwise R → (∀ y ∈ es, y.key ≠ x.key → R x y ∧ R y x) → (setE es x).Pairwise R := by
    intro R hR hx
    unfold setE
    rw [List.pairwise_map]
    refine (hR.and h.keys).imp_of_mem ?_
    intro a b ha hb' ⟨h1, h2⟩
    by_cases ka : a.key = x.key
    · by_cases kb : b.key = x.key
      · exact absurd (ka.trans kb.symm) h2
      · simpa [ka, kb] using (hx b hb' kb).1
    · by_cases kb : b.key = x.key
      · simpa [ka, kb] using (hx a ha ka).2
      · simpa [ka, kb] using h1
  refine ⟨hk.blk h.blk ?_, ?_, fun y hy => ?_, fun y hy => ?_, hpw _ h.keys fun y hy hne => ⟨fun e => hne e.symm, hne⟩, hpw _ h.gs fun y hy hne => ?_, hpw _ h.vs fun y hy hne => ⟨hxv y hy hne, fun g h1 h2 => hxv y hy hne g h2 h1⟩, fun y hy => ?_, hsum⟩
  · intro hc
    rcases List.mem_cons.1 hc with e1 | hc
    · exact (h.file_ne hm).1 e1.symm
    · exact (h.own_ne hm (by simpa using hc)).1 rfl
  · have hme : ef (setE es x) = ef es := by
      funext s
      unfold ef
      rw [lookE_set he s]
      split
      · rename_i hs
        rw [hs, he]
        simp [hg]
      · rfl
    rw [hme]
    refine h.map.keep (hk.block gm h.map.lt fun hc => ?_)
    rcases List.mem_cons.1 hc with e1 | hc
    · exact (h.file_ne hm).2 e1.symm
    · exact (h.own_ne hm (by simpa using hc)).2.1 rfl
  · rcases setE_mem hy with rfl | ⟨hy, hne⟩
    · exact hb
    · exact hk.blk (h.file y hy) (hL1 y hy hne)
  · rcases setE_mem hy with rfl | ⟨hy, hne⟩
    · exact ho
    · exact hk.own (h.own y hy) (hL2 y hy hne)
  · have := hL1 y hy hne
    simp only [List.mem_cons, not_or] at this
    rw [hg]
    exact ⟨fun e => this.1 e.symm, this.1⟩
  · rcases setE_mem hy with rfl | ⟨hy, hne⟩
    · exact hlen
    · exact h.len y hy
/-- a file comes new -/
theorem DiskAt.add (h : DiskAt w gd gm n es room short fuse) {x : Ent} (hn : lookE es x.key = none) {n' : Nat} (hk : Kb w w' [gm]) (hf : FM w' Tryz.prog 9 gm n' (at_ (ef es) x.key (some x.g)))
    (hb : Blk w' x.g 106 #[x.v, .int .i64 (x.syn : Int)]) (ho : Own w' 5 1 x.v x.b.length (bys x.b)) (hx : w.heap.size ≤ x.g) (hv : ∀ g, x.v.ownBlock = some g → w.heap.size ≤ g)
    (hlen : x.syn ≤ x.b.length ∧ x.b.length ≤ 1048576) (hsum : usedE es + x.b.length ≤ 1099511627776) : DiskAt w' gd gm n' (es ++ [x]) room short fuse := by
  have hpw : ∀ (R : Ent → Ent → Prop), es.Pairwise R → (∀ y ∈ es, R y x) → (es ++ [x]).Pairwise R := by
    intro R hR hx
    rw [List.pairwise_append]
    exact ⟨hR, List.pairwise_singleton _ _, fun a ha b hb => by rw [List.mem_singleton.1 hb]; exact hx a ha⟩
  have hmem : ∀ y ∈ es ++ [x], y ∈ es ∨ y = x := by
    intro y hy
    simpa using hy
  refine ⟨hk.blk h.blk (by simpa using h.map_ne), ?_, fun y hy => ?_, fun y hy => ?_, hpw _ h.keys (lookE_none hn), hpw _ h.gs fun y hy e => ?_, hpw _ h.vs fun y hy g h1 h2 => ?_, fun y hy => ?_, ?_⟩
  · have e : ef (es ++ [x]) = at_ (ef es) x.key (some x.g) := by
      funext s
      unfold ef at_
      rw [lookE_add hn]
      split <;> rfl
    rw [e]
    exact hf
  · rcases hmem y hy with hy | rfl
    · exact hk.blk (h.file y hy) (by simpa using (h.file_ne hy).2)
    · exact hb
  · rcases hmem y hy with hy | rfl
    · exact hk.own (h.own y hy) fun g hg => (by simpa using (h.own_ne hy hg).2.1)
    · exact ho
  · have := (h.file y hy).lt
    omega
  · have h3 := (h.own y hy).block_lt h1
    have h4 := hv g h2
    omega
  · rcases hmem y hy with hy | rfl
    · exact h.len y hy
    · exact hlen
  · rw [used_append]
    simp only [usedE, List.map_cons, List.map_nil, List.sum_cons, List.sum_nil] at *
    omega
/-- a file goes -/
theorem DiskAt.gone (h : DiskAt w gd gm n es room short fuse) {s : List UInt8} {n' : Nat} (hk : Kb w w' [gm]) (hf : FM w' Tryz.prog 9 gm n' (at_ (ef es) s none)) : DiskAt w' gd gm n' (delE es s) room short fuse := by
  refine ⟨hk.blk h.blk (by simpa using h.map_ne), ?_, fun y hy => hk.blk (h.file y (delE_mem hy).1) (by simpa using (h.file_ne (delE_mem hy).1).2), fun y hy => hk.own (h.own y (delE_mem hy).1) fun g hg => (by simpa using (h.own_ne (delE_mem hy).1 hg).2.1),
    h.keys.filter _, h.gs.filter _, h.vs.filter _, fun y hy => h.len y (delE_mem hy).1, Nat.le_trans (used_del_le es s) h.sum⟩
  have e : ef (delE es s) = at_ (ef es) s none := by
    funext t
    unfold ef at_
    rw [lookE_del]
    split <;> rfl
  rw [e]
  exact hf
/-- the map is laid anew at a name that stands -/
theorem DiskAt.remap (h : DiskAt w gd gm n es room short fuse) {e : Ent} (he : e ∈ es) {n' : Nat} (hk : Kb w w' [gm]) (hf : FM w' Tryz.prog 9 gm n' (at_ (ef es) e.key (some e.g))) : DiskAt w' gd gm n' es room short fuse := by
  refine ⟨hk.blk h.blk (by simpa using h.map_ne), ?_, fun y hy => hk.blk (h.file y hy) (by simpa using (h.file_ne hy).2), fun y hy => hk.own (h.own y hy) fun g hg => (by simpa using (h.own_ne hy hg).2.1), h.keys, h.gs, h.vs, h.len, h.sum⟩
  have e1 : at_ (ef es) e.key (some e.g) = ef es := by
    funext t
    unfold at_
    split
    · rename_i ht
      rw [ht]
      unfold ef
      rw [lookE_of_mem h.keys he]
      rfl
    · rfl
  rw [e1] at hf
  exact hf
end
end Go.Proofs.YtmlfeljhojmbbaaGreatDoor
