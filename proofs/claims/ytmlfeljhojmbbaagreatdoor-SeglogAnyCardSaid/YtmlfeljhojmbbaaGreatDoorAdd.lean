/- What Append makes of a disk's files, and what lies where behind it. -/
import Derived.Test.YtmlfeljhojmbbaaGreatDoorFile2
namespace Go.Proofs.YtmlfeljhojmbbaaGreatDoor
open Go.RowKit Go.Maps
set_option linter.unusedSimpArgs false
set_option linter.unusedVariables false
set_option maxRecDepth 100000

/-- bytes come behind a file, or a file comes -/
def addF (S : List Fl) (k b : List UInt8) : List Fl :=
  match look S k with
  | some (b0, sy) => S.map fun x => if x.1 == k then (k, b0 ++ b, sy) else x
  | none => S ++ [(k, b, 0)]
def fls (es : List Ent) : List Fl := es.map Ent.fl
theorem fls_set (es : List Ent) {x e : Ent} (he : lookE es x.key = some e) (b : List UInt8) (hb : x.b = e.b ++ b) (hs : x.syn = e.syn) : fls (setE es x) = addF (fls es) x.key b := by
  unfold addF fls
  rw [look_map, he]
  simp only [Option.map_some]
  unfold setE
  rw [List.map_map, List.map_map]
  refine List.map_congr_left fun y hy => ?_
  simp only [Function.comp]
  by_cases hk : y.key = x.key
  · simp [hk, Ent.fl, hb, hs]
  · simp [hk, Ent.fl]
theorem fls_add (es : List Ent) {x : Ent} (he : lookE es x.key = none) (hs : x.syn = 0) : fls (es ++ [x]) = addF (fls es) x.key x.b := by
  unfold addF fls
  rw [look_map, he]
  simp [Ent.fl, hs]
/-- how many bytes a file has -/
def lenF (S : List Fl) (k : List UInt8) : Nat := ((look S k).map fun x => x.1.length).getD 0
theorem lenF_some {es : List Ent} {k : List UInt8} {e : Ent} (h : lookE es k = some e) : lenF (fls es) k = e.b.length := by
  unfold lenF fls
  rw [look_map, h]
  rfl
theorem lenF_none {es : List Ent} {k : List UInt8} (h : lookE es k = none) : lenF (fls es) k = 0 := by
  unfold lenF fls
  rw [look_map, h]
  rfl
/-- what a disk holds behind a call: its block and map, its files, what else stands -/
structure After (w w' : World) (gd gm : Nat) (es : List Ent) (n' : Nat) (S' : List Fl) (room short fuse : Int) : Prop where
  disk : ∃ es', DiskAt w' gd gm n' es' room short fuse ∧ fls es' = S' ∧ ∀ x ∈ foot gd gm es', x ∈ foot gd gm es ∨ w.heap.size ≤ x
  kept : Kb w w' (foot gd gm es)
theorem foot_set {gd gm : Nat} {es : List Ent} {x e : Ent} (he : lookE es x.key = some e) (hg : x.g = e.g) {B : Nat} (hv : ∀ g, x.v.ownBlock = some g → e.v.ownBlock = some g ∨ B ≤ g) :
    ∀ y ∈ foot gd gm (setE es x), y ∈ foot gd gm es ∨ B ≤ y := by
  intro y hy
  obtain ⟨hm, _⟩ := lookE_mem he
  simp only [foot, List.mem_cons, List.mem_flatMap] at hy
  rcases hy with rfl | rfl | ⟨z, hz, hy⟩
  · exact .inl (by simp [foot])
  · exact .inl (by simp [foot])
  · rcases setE_mem hz with rfl | ⟨hz, _⟩
    · rcases hy with rfl | hy
      · exact .inl (by rw [hg]; exact foot_ent hm)
      · rcases hv y (by simpa using hy) with h | h
        · exact .inl (foot_own hm h)
        · exact .inr h
    · rcases hy with rfl | hy
      · exact .inl (foot_ent hz)
      · exact .inl (foot_own hz (by simpa using hy))
theorem foot_add {gd gm : Nat} {es : List Ent} {x : Ent} {B : Nat} (hg : B ≤ x.g) (hv : ∀ g, x.v.ownBlock = some g → B ≤ g) : ∀ y ∈ foot gd gm (es ++ [x]), y ∈ foot gd gm es ∨ B ≤ y := by
  intro y hy
  simp only [foot, List.mem_cons, List.mem_flatMap, List.mem_append] at hy
  rcases hy with rfl | rfl | ⟨z, hz | hz, hy⟩
  · exact .inl (by simp [foot])
  · exact .inl (by simp [foot])
  · rcases hy with rfl | hy
    · exact .inl (foot_ent hz)
    · exact .inl (foot_own hz (by simpa using hy))
  · simp at hz
    subst hz
    rcases hy with rfl | hy
    · exact .inr hg
    · exact .inr (hv y (by simpa using hy))
section
variable {w w4 w5 w6 w7 : World} {gd gm n : Nat} {es : List Ent} {room short fuse : Int}
/-- bytes come behind a file that stands: the row, the file's block, the map -/
theorem append_old (h4 : DiskAt w4 gd gm n es room short fuse) {x : Ent} {k : List UInt8} (hx : lookE es k = some x) {A5 : Option Addr} {N c5 : Nat} {b : List UInt8} (hN : x.b.length + b.length = N)
    (ho : Own w5 5 1 (.slice A5 N c5) N (bys (x.b ++ b))) (hg : w4.grownBy w5 x.v.ownBlock) (hl : (Value.slice A5 N c5).ownBlock = x.v.ownBlock ∨ (Value.slice A5 N c5).ownBlock = some w4.heap.size)
    (h1 : N ≤ 1048576) (h2 : usedE es + b.length ≤ 1099511627776) :
    DiskAt (w5.setCell ⟨x.g, 0, none⟩ (.slice A5 N c5)) gd gm n (setE es { x with v := .slice A5 N c5, b := x.b ++ b }) room short fuse ∧ Kb w4 (w5.setCell ⟨x.g, 0, none⟩ (.slice A5 N c5)) (foot gd gm es) := by
  obtain ⟨hm, hk⟩ := lookE_mem hx
  have hL : Kb w4 w5 (x.g :: x.v.ownBlock.toList) := Kb.of_grown hg fun r hr => by rw [hr]; simp
  have hK : Kb w4 (w5.setCell ⟨x.g, 0, none⟩ (.slice A5 N c5)) (x.g :: x.v.ownBlock.toList) := hL.setCell (by simp) _
  have hb5 : Blk w5 x.g 106 #[x.v, .int .i64 (x.syn : Int)] := (hg.block x.g (h4.file x hm).lt fun e => (h4.own_ne hm e.symm).2.2 x hm rfl).trans (h4.file x hm)
  have hlen : (x.b ++ b).length = N := by rw [List.length_append]; exact hN
  have hlx := (h4.len x hm).1
  have hne : ∀ g, (Value.slice A5 N c5).ownBlock = some g → g ≠ x.g := blk_own_ne hb5 (by decide) ho
  refine ⟨h4.replace (e := x) (by simpa [hk] using hx) rfl hK (hb5.set_ 0 _) ?_ (fun g hgv => ?_) ⟨by simp; omega, by simp; omega⟩ ?_, hK.mono fun y hy => ?_⟩
  · refine (ho.keep fun g hgv => Below.heap_setCell w5 _ _ g (hne g hgv)).cast hlen.symm rfl
  · rcases hl with h | h
    · exact .inl (h ▸ hgv)
    · rw [h] at hgv
      cases hgv
      exact .inr (Nat.le_refl _)
  · have := used_set h4.keys (x := { x with v := .slice A5 N c5, b := x.b ++ b }) (e := x) (by simpa [hk] using hx)
    simp only [List.length_append] at this
    omega
  · rcases List.mem_cons.1 hy with rfl | hy
    · exact foot_ent hm
    · exact foot_own hm (by simpa using hy)
/-- bytes come into a new file -/
theorem append_new (h4 : DiskAt w4 gd gm n es room short fuse) {g : Nat} (hb4 : Blk w4 g 106 #[.slice none 0 0, .int .i64 0]) (hgf : g ∉ foot gd gm es) {A5 : Option Addr} {N c5 : Nat} {b : List UInt8}
    (ho : Own w5 5 1 (.slice A5 N c5) N (bys b)) (hg : w4.grownBy w5 none) (hl : (Value.slice A5 N c5).ownBlock = none ∨ (Value.slice A5 N c5).ownBlock = some w4.heap.size) :
    DiskAt (w5.setCell ⟨g, 0, none⟩ (.slice A5 N c5)) gd gm n es room short fuse ∧ Blk (w5.setCell ⟨g, 0, none⟩ (.slice A5 N c5)) g 106 #[.slice A5 N c5, .int .i64 0] ∧ Own (w5.setCell ⟨g, 0, none⟩ (.slice A5 N c5)) 5 1 (.slice A5 N c5) N (bys b) ∧ Kb w4 (w5.setCell ⟨g, 0, none⟩ (.slice A5 N c5)) [g] := by
  have hL : Kb w4 w5 [g] := Kb.of_grown hg fun r hr => by cases hr
  have hK : Kb w4 (w5.setCell ⟨g, 0, none⟩ (.slice A5 N c5)) [g] := hL.setCell (by simp) _
  have hb5 : Blk w5 g 106 #[.slice none 0 0, .int .i64 0] := (hg.block g hb4.lt (by simp)).trans hb4
  have hne : ∀ g', (Value.slice A5 N c5).ownBlock = some g' → g' ≠ g := blk_own_ne hb5 (by decide) ho
  exact ⟨h4.keep hK fun x hx hc => hgf (by simp at hc; rw [← hc]; exact hx), hb5.set_ 0 _, ho.keep fun g' hgv => Below.heap_setCell w5 _ _ g' (hne g' hgv), hK⟩
theorem DiskAt.more (h : DiskAt w gd gm n es room short fuse) : DiskAt w gd gm (n + 1) es room short fuse := by
  obtain ⟨h1, ⟨D, ⟨es', clock, a, b, c, d⟩, hf⟩, h3, h4, h5, h6, h7, h8, h9⟩ := h
  exact ⟨h1, ⟨D, ⟨es', clock, a, b, Nat.le_succ_of_le c, d⟩, hf⟩, h3, h4, h5, h6, h7, h8, h9⟩
theorem below_of_drew {a b : World} (h : Below a.drew.heap.size a.drew b) : Below a.heap.size a b := ⟨h.os, h.tape, h.output, h.size, h.block⟩
theorem After.from_ {n' : Nat} {S' : List Fl} {room' short' fuse' : Int} {L : List Nat} (h : After w4 w7 gd gm es n' S' room' short' fuse') (hk : Kb w w4 L) (hL : ∀ x ∈ L, x ∈ foot gd gm es ∨ w.heap.size ≤ x) : After w w7 gd gm es n' S' room' short' fuse' := by
  obtain ⟨⟨es', h1, h2, h3⟩, h4⟩ := h
  have hs := hk.size
  refine ⟨⟨es', h1, h2, fun x hx => (h3 x hx).elim .inl fun h => .inr (by omega)⟩, ?_⟩
  refine ⟨h4.os.trans hk.os, h4.tape.trans hk.tape, h4.output.trans hk.output, Nat.le_trans hs h4.size, fun b hb hn => ?_⟩
  rw [h4.block b (by omega) hn]
  exact hk.block b hb fun hl => (hL b hl).elim hn fun hle => Nat.lt_irrefl _ (Nat.lt_of_lt_of_le hb hle)
theorem old_end (h4 : DiskAt w4 gd gm n es room short fuse) {x : Ent} {s : ByteArray} (hx : lookE es s.data.toList = some x) {A5 : Option Addr} {N c5 : Nat} {b : List UInt8} (hN : x.b.length + b.length = N)
    (ho : Own w5 5 1 (.slice A5 N c5) N (bys (x.b ++ b))) (hg : w4.grownBy w5 x.v.ownBlock) (hl : (Value.slice A5 N c5).ownBlock = x.v.ownBlock ∨ (Value.slice A5 N c5).ownBlock = some w4.heap.size)
    (h1 : N ≤ 1048576) (h2 : usedE es + b.length ≤ 1099511627776) (hk : keyOf Tryz.prog 9 (.string s) = some (.string s.data.toList)) (hn : n < 1000000000) :
    w5.frozen? ⟨x.g, 0, none⟩ = false ∧ w5.cell? ⟨x.g, 0, none⟩ = some x.v ∧ (w5.setCell ⟨x.g, 0, none⟩ (.slice A5 N c5)).cell? ⟨gd, 0, none⟩ = some (.map (some gm)) ∧
    ∃ w7, (Instr.mapUpdate 71 (.map (some gm)) (.string s) (gp x.g)).run Tryz.prog (w5.setCell ⟨x.g, 0, none⟩ (.slice A5 N c5)) = .ok () w7 ∧ After w4 w7 gd gm es (n + 1) (addF (fls es) s.data.toList b) room short fuse := by
  obtain ⟨hm, hke⟩ := lookE_mem hx
  obtain ⟨hD, hK⟩ := append_old h4 hx hN ho hg hl h1 h2
  have hb5 : Blk w5 x.g 106 #[x.v, .int .i64 (x.syn : Int)] := (hg.block x.g (h4.file x hm).lt fun e => (h4.own_ne hm e.symm).2.2 x hm rfl).trans (h4.file x hm)
  refine ⟨hb5.free 0, hb5.cell 0, hD.blk.cell 0, ?_⟩
  obtain ⟨w7, hup, hfm, hg7⟩ := hD.map.update _ name_keyed Tryz.underlying71 (by unfold maxLen; omega) x.g hk
  refine ⟨w7, hup, ⟨_, hD.remap (e := { x with v := .slice A5 N c5, b := x.b ++ b }) ?_ (Kb.of_grown hg7 (fun r hr => by cases hr; simp)) (hke.symm ▸ hfm), ?_, ?_⟩, ?_⟩
  · have := lookE_set_eq (es := es) (x := { x with v := .slice A5 N c5, b := x.b ++ b }) (e := x) (by simpa [hke] using hx)
    exact (lookE_mem this).1
  · have := fls_set es (x := { x with v := .slice A5 N c5, b := x.b ++ b }) (e := x) (by simpa [hke] using hx) b rfl rfl
    rw [this, hke]
  · refine foot_set (x := { x with v := .slice A5 N c5, b := x.b ++ b }) (e := x) (by simpa [hke] using hx) rfl fun g hgv => ?_
    rcases hl with h | h
    · exact .inl (h ▸ hgv)
    · rw [h] at hgv
      cases hgv
      exact .inr (Nat.le_refl _)
  · exact hK.trans (Kb.of_grown hg7 (L := [gm]) (fun r hr => by cases hr; simp)) fun y hy => .inl (by simp at hy; subst hy; simp [foot])
theorem new_end (h4 : DiskAt w4 gd gm n es room short fuse) {g : Nat} (hb4 : Blk w4 g 106 #[.slice none 0 0, .int .i64 0]) {B : Nat} (hgB : B ≤ g) (hlt : ∀ y ∈ foot gd gm es, y < B) {s : ByteArray} (hx : lookE es s.data.toList = none) {A5 : Option Addr} {N c5 : Nat} {b : List UInt8} (hN : b.length = N)
    (ho : Own w5 5 1 (.slice A5 N c5) N (bys b)) (hg : w4.grownBy w5 none) (hl : (Value.slice A5 N c5).ownBlock = none ∨ (Value.slice A5 N c5).ownBlock = some w4.heap.size)
    (h1 : N ≤ 1048576) (h2 : usedE es + b.length ≤ 1099511627776) (hk : keyOf Tryz.prog 9 (.string s) = some (.string s.data.toList)) (hn : n < 1000000000) :
    w5.frozen? ⟨g, 0, none⟩ = false ∧ w5.cell? ⟨g, 0, none⟩ = some (.slice none 0 0) ∧ (w5.setCell ⟨g, 0, none⟩ (.slice A5 N c5)).cell? ⟨gd, 0, none⟩ = some (.map (some gm)) ∧
    ∃ w7, (Instr.mapUpdate 71 (.map (some gm)) (.string s) (gp g)).run Tryz.prog (w5.setCell ⟨g, 0, none⟩ (.slice A5 N c5)) = .ok () w7 ∧
      (∃ es', DiskAt w7 gd gm (n + 1) es' room short fuse ∧ fls es' = addF (fls es) s.data.toList b ∧ ∀ x ∈ foot gd gm es', x ∈ foot gd gm es ∨ B ≤ x) ∧ Kb w4 w7 (g :: foot gd gm es) := by
  have hgf : g ∉ foot gd gm es := fun h => by have := hlt g h; omega
  obtain ⟨hD, hbg, hoo, hK⟩ := append_new h4 hb4 hgf ho hg hl
  have hb5 : Blk w5 g 106 #[.slice none 0 0, .int .i64 0] := (hg.block g hb4.lt (by simp)).trans hb4
  refine ⟨hb5.free 0, hb5.cell 0, hD.blk.cell 0, ?_⟩
  obtain ⟨w7, hup, hfm, hg7⟩ := hD.map.update _ name_keyed Tryz.underlying71 (by unfold maxLen; omega) g hk
  have hk7 : Kb (w5.setCell ⟨g, 0, none⟩ (.slice A5 N c5)) w7 [gm] := Kb.of_grown hg7 (fun r hr => by cases hr; simp)
  have hgm : g ≠ gm := fun e => hgf (by rw [e]; simp [foot])
  have hom : ∀ g', (Value.slice A5 N c5).ownBlock = some g' → g' ≠ gm := own_map_ne hoo hD.map
  have hBg : B ≤ w4.heap.size := Nat.le_trans hgB (Nat.le_of_lt hb4.lt)
  have hvB : ∀ g', (Value.slice A5 N c5).ownBlock = some g' → w4.heap.size ≤ g' := by
    intro g' hgv
    rcases hl with h | h
    · rw [h] at hgv; cases hgv
    · rw [h] at hgv; cases hgv; exact Nat.le_refl _
  refine ⟨w7, hup, ⟨es ++ [⟨s.data.toList, g, .slice A5 N c5, b, 0⟩], ?_, fls_add es (x := ⟨s.data.toList, g, .slice A5 N c5, b, 0⟩) hx rfl, foot_add hgB fun g' hgv => Nat.le_trans hBg (hvB g' hgv)⟩, ?_⟩
  · have hpw : ∀ y ∈ es, y.g ≠ g := fun y hy e => hgf (e ▸ foot_ent hy)
    have hpv : ∀ y ∈ es, ∀ g', y.v.ownBlock = some g' → (Value.slice A5 N c5).ownBlock ≠ some g' := fun y hy g' h3 h5 => by
      have h6 := (h4.own y hy).block_lt h3
      have h7 := hvB g' h5
      omega
    have e : ef (es ++ [⟨s.data.toList, g, .slice A5 N c5, b, 0⟩]) = at_ (ef es) s.data.toList (some g) := by
      funext t
      unfold ef at_
      rw [lookE_add (x := ⟨s.data.toList, g, .slice A5 N c5, b, 0⟩) hx]
      split <;> rfl
    have hmem : ∀ y ∈ es ++ [(⟨s.data.toList, g, .slice A5 N c5, b, 0⟩ : Ent)], y ∈ es ∨ y = ⟨s.data.toList, g, .slice A5 N c5, b, 0⟩ := fun y hy => by simpa using hy
    have hpa : ∀ (R : Ent → Ent → Prop), es.Pairwise R → (∀ y ∈ es, R y ⟨s.data.toList, g, .slice A5 N c5, b, 0⟩) → (es ++ [(⟨s.data.toList, g, .slice A5 N c5, b, 0⟩ : Ent)]).Pairwise R := by
      intro R hR hx
      rw [List.pairwise_append]
      exact ⟨hR, List.pairwise_singleton _ _, fun a ha b hb => by rw [List.mem_singleton.1 hb]; exact hx a ha⟩
    refine ⟨hk7.blk hD.blk (by simpa using hD.map_ne), by rw [e]; exact hfm, fun y hy => ?_, fun y hy => ?_, hpa _ h4.keys (lookE_none hx), hpa _ h4.gs hpw, hpa _ h4.vs hpv, fun y hy => ?_, ?_⟩
    · rcases hmem y hy with hy | rfl
      · exact hk7.blk (hD.file y hy) (by simpa using (hD.file_ne hy).2)
      · exact hk7.blk hbg (by simpa using hgm)
    · rcases hmem y hy with hy | rfl
      · exact hk7.own (hD.own y hy) fun g' hgv => (by simpa using (hD.own_ne hy hgv).2.1)
      · exact (hk7.own hoo fun g' hgv => (by simpa using hom g' hgv)).cast hN.symm rfl
    · rcases hmem y hy with hy | rfl
      · exact h4.len y hy
      · exact ⟨Nat.zero_le _, by show b.length ≤ _; omega⟩
    · rw [used_append]
      simp only [usedE, List.map_cons, List.map_nil, List.sum_cons, List.sum_nil] at *
      omega
  · exact (hK.mono (L' := g :: foot gd gm es) (by simp)).trans hk7 fun y hy => .inl (by simp at hy; subst hy; simp [foot])
theorem rdB_disk {w' : World} {A : Option Addr} {b : List UInt8} (hD : DiskAt w gd gm n es room short fuse) (hr : RdB w A b) (hk : Kb w w' [gd]) : RdB w' A b := by
  intro k hk'
  obtain ⟨ad, e, hc⟩ := hr k hk'
  refine ⟨ad, e, ?_⟩
  have hne : (ad.add k).block ≠ gd := by
    intro e2
    have hb := hD.blk
    unfold Blk at hb
    unfold World.cell? at hc
    rw [e2, hb] at hc
    simp only at hc
    split at hc
    · cases hc
    · have hm := Array.mem_of_getElem? hc
      simp at hm
  have hlt := World.block_lt_of_cell? w _ hc
  have hbl := hk.block (ad.add k).block hlt (by simpa using hne)
  unfold World.cell? at hc ⊢
  rw [hbl]
  exact hc
theorem DiskAt.drewN (h : DiskAt w gd gm n es room short fuse) (q : Nat) : DiskAt (w.drewN q) gd gm n es room short fuse := h.below (w' := w.drewN q) ⟨rfl, rfl, rfl, Nat.le_refl _, fun _ _ => rfl⟩
theorem Kb.drewN {a b : World} {L : List Nat} (h : Kb a b L) (q : Nat) : Kb a (b.drewN q) L := h.below_ (w'' := b.drewN q) ⟨rfl, rfl, rfl, Nat.le_refl _, fun _ _ => rfl⟩
end
end Go.Proofs.YtmlfeljhojmbbaaGreatDoor
