/- The program's disk beside the document's: the same files, the same answers. Both disks of a law, in blocks of their own; the blocks Z stand beside. Walk: the statements' SameDisks, of two disks that have the same: true. Walk: the statements' Spoil, of one row of bytes: that row's block alone turns. A call on the program's disk, and the same on the document's: the same answer, and the same files. Walk: the statements' Steps: a step on both disks; they do not part. -/
import Derived.Test.YtmlfeljhojmbbaaGreatDoorRdB
import Derived.Test.YtmlfeljhojmbbaaGreatDoorEqM
import Derived.Deep.Cut
namespace Go.Proofs.YtmlfeljhojmbbaaGreatDoor
open Go.RowKit Go.Maps
set_option linter.unusedSimpArgs false
set_option linter.unusedVariables false
set_option maxRecDepth 100000

abbrev Keyd (S : List Fl) : Prop := S.Pairwise fun a b => a.1 ≠ b.1
theorem keyd_perm {S T : List Fl} (h : S.Perm T) (hk : Keyd T) : Keyd S := h.symm.pairwise hk fun h e => h e.symm
theorem look_iff {S : List Fl} (hk : Keyd S) (s b : List UInt8) (sy : Nat) : look S s = some (b, sy) ↔ (s, b, sy) ∈ S := by
  unfold look
  constructor
  · intro h
    cases hx : S.find? fun x => x.1 == s with
    | none => rw [hx] at h; cases h
    | some x =>
      rw [hx] at h
      have h1 : x.2 = (b, sy) := by injection h
      have h2 : x.1 = s := by simpa using List.find?_some hx
      have h3 := List.mem_of_find?_eq_some hx
      have h4 : x = (s, b, sy) := by rw [← h1, ← h2]
      rwa [h4] at h3
  · intro h
    cases hx : S.find? fun x => x.1 == s with
    | none =>
      have := List.find?_eq_none.1 hx _ h
      simp at this
    | some x =>
      have h2 : x.1 = s := by simpa using List.find?_some hx
      have h3 := List.mem_of_find?_eq_some hx
      have h4 : x = (s, b, sy) := by
        by_cases e : x = (s, b, sy)
        · exact e
        · exact absurd h2 (pw_of (R := fun a b : Fl => a.1 ≠ b.1) (fun h e => h e.symm) hk h3 h e)
      rw [h4]
      rfl
theorem look_perm {S T : List Fl} (h : S.Perm T) (hk : Keyd T) (s : List UInt8) : look S s = look T s := by
  cases ht : look T s with
  | none =>
    rw [look_none] at ht ⊢
    exact fun x hx => ht x (h.mem_iff.1 hx)
  | some p =>
    obtain ⟨b, sy⟩ := p
    rw [look_iff hk] at ht
    rw [look_iff (keyd_perm h hk)]
    exact h.mem_iff.2 ht
theorem usedP {S T : List Fl} (h : S.Perm T) : used S = used T := by
  unfold used
  exact (h.map _).sum_nat
theorem insF_rising {T : List Fl} {x : Fl} (h : T.Pairwise fun a b => a.1 < b.1) (hn : ∀ y ∈ T, y.1 ≠ x.1) : (insF x T).Pairwise fun a b => a.1 < b.1 := by
  induction T with
  | nil => exact List.pairwise_singleton _ _
  | cons f r ih =>
    rw [List.pairwise_cons] at h
    unfold insF
    by_cases hx : x.1 < f.1
    · rw [if_pos hx, List.pairwise_cons, List.pairwise_cons]
      refine ⟨fun y hy => ?_, h⟩
      rcases List.mem_cons.1 hy with rfl | hy
      · exact hx
      · exact List.lt_trans hx (h.1 y hy)
    · rw [if_neg hx, List.pairwise_cons]
      refine ⟨fun y hy => ?_, ih h.2 fun y hy => hn y (by simp [hy])⟩
      rcases List.mem_cons.1 ((insF_perm x r).mem_iff.1 hy) with rfl | hy
      · by_cases h2 : f.1 < y.1
        · exact h2
        · exact absurd (List.le_antisymm (show f.1 ≤ y.1 from hx) (show y.1 ≤ f.1 from h2)) (hn f (by simp))
      · exact h.1 y hy
theorem map_rising {T : List Fl} (g : Fl → Fl) (hg : ∀ x, (g x).1 = x.1) (h : T.Pairwise fun a b => a.1 < b.1) : (T.map g).Pairwise fun a b => a.1 < b.1 := by
  rw [List.pairwise_map]
  exact h.imp fun {a b} h => by rw [hg, hg]; exact h
theorem setF_rising {T : List Fl} (k b : List UInt8) (sy : Nat) (h : T.Pairwise fun a b => a.1 < b.1) : (setF T k b sy).Pairwise fun a b => a.1 < b.1 := by
  refine map_rising _ (fun x => ?_) h
  split
  · rename_i hx
    exact (beq_iff_eq.1 hx).symm
  · rfl
theorem addT_rising {T : List Fl} (k b : List UInt8) (h : T.Pairwise fun a b => a.1 < b.1) : (addT T k b).Pairwise fun a b => a.1 < b.1 := by
  unfold addT
  cases hx : look T k with
  | none => exact insF_rising h (look_none.1 hx)
  | some p =>
    obtain ⟨b0, sy⟩ := p
    simp only []
    rw [addF_setF hx]
    exact setF_rising _ _ _ h
theorem addT_perm {S T : List Fl} (h : S.Perm T) (hk : Keyd T) (k b : List UInt8) : (addF S k b).Perm (addT T k b) := by
  unfold addT
  have hl := look_perm h hk k
  cases hx : look T k with
  | none =>
    rw [hx] at hl
    have e : addF S k b = S ++ [(k, b, 0)] := by unfold addF; rw [hl]
    rw [e]
    exact (List.perm_append_comm.trans ((List.Perm.cons _ h))).trans (insF_perm _ _).symm
  | some p =>
    obtain ⟨b0, sy⟩ := p
    rw [hx] at hl
    simp only []
    rw [addF_setF hl, addF_setF hx]
    exact h.map _
theorem delF_rising {T : List Fl} (k : List UInt8) (h : T.Pairwise fun a b => a.1 < b.1) : (delF T k).Pairwise fun a b => a.1 < b.1 := h.filter _
theorem delF_none {T : List Fl} (k : List UInt8) : ∀ y ∈ delF T k, y.1 ≠ k := by
  intro y hy e
  unfold delF at hy
  have := (List.mem_filter.1 hy).2
  rw [e] at this
  simp at this
/-- the two disks have the same -/
structure Same (d : Ds) (T : List Fl) : Prop where
  perm : d.S.Perm T
  ok : TOk T
section
variable {d : Ds} {T : List Fl}
theorem Same.look (h : Same d T) (s : List UInt8) : look d.S s = look T s := look_perm h.perm h.ok.keys s
theorem dApp_same (h : Same d T) (s b : List UInt8) : (dApp d s b).1 = (dApp ⟨T, 0, d.room, d.short, d.fuse⟩ s b).1 ∧ (dApp d s b).2.1 = (dApp ⟨T, 0, d.room, d.short, d.fuse⟩ s b).2.1 ∧
    (dApp d s b).2.2.short = (dApp ⟨T, 0, d.room, d.short, d.fuse⟩ s b).2.2.short ∧ (dApp d s b).2.2.fuse = (dApp ⟨T, 0, d.room, d.short, d.fuse⟩ s b).2.2.fuse ∧ (dApp d s b).2.2.room = d.room ∧ (dApp d s b).2.2.n ≤ d.n + 1 ∧
    (dApp d s b).2.2.S.Perm (appT T d.room d.short d.fuse s b) := by
  have hl : lenF d.S s = lenF T s := by unfold lenF; rw [h.look]
  have hu := usedP h.perm
  unfold dApp appT
  by_cases h1 : chErr (nameOk s) d.fuse = 0
  · have hn : ¬ (chErr (nameOk s) d.fuse ≠ 0) := fun h => h h1
    simp only [if_neg hn, hl, hu]
    by_cases h2 : 1048576 < lenF T s + appLen d.short b.length ∨ d.room < used T + appLen d.short b.length
    · simp only [if_pos h2]
      refine ⟨?_, ?_, ?_, ?_, ?_, ?_, ?_⟩ <;> first | rfl | trivial | exact Nat.le_refl _ | exact h.perm
    · simp only [if_neg h2]
      refine ⟨?_, ?_, ?_, ?_, ?_, ?_, ?_⟩ <;> first | rfl | trivial | exact Nat.le_refl _ | exact addT_perm h.perm h.ok.keys _ _
  · simp only [if_pos (show chErr (nameOk s) d.fuse ≠ 0 from h1)]
    refine ⟨?_, ?_, ?_, ?_, ?_, ?_, ?_⟩ <;> first | rfl | trivial | exact Nat.le_succ _ | exact h.perm
theorem appT_rising {room short fuse : Int} (h : T.Pairwise fun a b => a.1 < b.1) (s b : List UInt8) : (appT T room short fuse s b).Pairwise fun a b => a.1 < b.1 := by
  unfold appT
  split
  · exact h
  · split
    · exact h
    · exact addT_rising _ _ h
theorem dSync_same (h : Same d T) (s : List UInt8) : (dSync d s).1 = rSyncE T s d.fuse ∧ (dSync d s).2.S.Perm (syncT T s d.fuse) ∧ (dSync d s).2.room = d.room ∧ (dSync d s).2.short = d.short ∧ (dSync d s).2.fuse = chFuse true d.fuse ∧ (dSync d s).2.n = d.n := by
  unfold dSync rSyncE syncT
  by_cases h0 : d.fuse = 0
  · rw [if_pos h0, if_pos h0, if_pos h0]
    refine ⟨?_, ?_, ?_, ?_, ?_, ?_⟩ <;> first | rfl | trivial | exact h.perm | (rw [h0]; rfl)
  · rw [if_neg h0, if_neg h0, if_neg h0, h.look]
    cases hx : look T s with
    | none => refine ⟨?_, ?_, ?_, ?_, ?_, ?_⟩ <;> first | rfl | trivial | exact h.perm
    | some p => refine ⟨?_, ?_, ?_, ?_, ?_, ?_⟩ <;> first | rfl | trivial | exact h.perm.map _
theorem syncT_rising {fuse : Int} (h : T.Pairwise fun a b => a.1 < b.1) (s : List UInt8) : (syncT T s fuse).Pairwise fun a b => a.1 < b.1 := by
  unfold syncT
  split
  · exact h
  · cases look T s with
    | none => exact h
    | some p => exact setF_rising _ _ _ h
theorem dDel_same (h : Same d T) (s : List UInt8) : (dDel d s).1 = rDelE T s d.fuse ∧ (dDel d s).2.S.Perm (delT T s d.fuse) ∧ (dDel d s).2.room = d.room ∧ (dDel d s).2.short = d.short ∧ (dDel d s).2.fuse = chFuse true d.fuse ∧ (dDel d s).2.n = d.n := by
  unfold dDel rDelE delT
  by_cases h0 : d.fuse = 0
  · rw [if_pos h0, if_pos h0, if_pos h0]
    refine ⟨?_, ?_, ?_, ?_, ?_, ?_⟩ <;> first | rfl | trivial | exact h.perm | (rw [h0]; rfl)
  · rw [if_neg h0, if_neg h0, if_neg h0, h.look]
    cases hx : look T s with
    | none => refine ⟨?_, ?_, ?_, ?_, ?_, ?_⟩ <;> first | rfl | trivial | exact h.perm
    | some p => refine ⟨?_, ?_, ?_, ?_, ?_, ?_⟩ <;> first | rfl | trivial | exact h.perm.filter _
theorem delT_rising {fuse : Int} (h : T.Pairwise fun a b => a.1 < b.1) (s : List UInt8) : (delT T s fuse).Pairwise fun a b => a.1 < b.1 := by
  unfold delT
  split
  · exact h
  · split
    · exact delF_rising _ h
    · exact h
theorem dRen_same (h : Same d T) (a z : List UInt8) : (dRen d a z).1 = rRenE T a z d.fuse ∧ (dRen d a z).2.S.Perm (renT T a z d.fuse) ∧ (dRen d a z).2.room = d.room ∧ (dRen d a z).2.short = d.short ∧ (dRen d a z).2.fuse = chFuse (nameOk z) d.fuse ∧ (dRen d a z).2.n ≤ d.n + 1 := by
  unfold dRen rRenE renT
  by_cases h1 : chErr (nameOk z) d.fuse = 0
  · obtain ⟨hok, _⟩ := chErr_ok h1
    have hn : ¬ (chErr (nameOk z) d.fuse ≠ 0) := fun h => h h1
    simp only [if_neg hn]
    rw [h.look, hok]
    cases hx : look T a with
    | none => refine ⟨?_, ?_, ?_, ?_, ?_, ?_⟩ <;> first | rfl | trivial | exact h.perm | exact Nat.le_succ _
    | some p =>
      obtain ⟨b, sy⟩ := p
      refine ⟨rfl, ?_, rfl, rfl, rfl, Nat.le_refl _⟩
      exact (List.perm_append_comm.trans (((h.perm.filter _).filter _).cons _)).trans (insF_perm _ _).symm
  · simp only [if_pos (show _ ≠ (0 : Int) from h1)]
    refine ⟨?_, ?_, ?_, ?_, ?_, ?_⟩ <;> first | rfl | trivial | exact h.perm | exact Nat.le_succ _
theorem renT_rising {fuse : Int} (h : T.Pairwise fun a b => a.1 < b.1) (a z : List UInt8) : (renT T a z fuse).Pairwise fun a b => a.1 < b.1 := by
  unfold renT
  split
  · exact h
  · cases look T a with
    | none => exact h
    | some p => exact insF_rising (delF_rising _ (delF_rising _ h)) (delF_none z)
theorem dCut_same (h : Same d T) (s : List UInt8) (k : Int) : (dCut d s k).1 = rCutE T s k d.fuse ∧ (dCut d s k).2.S.Perm (cutT T s k d.fuse) ∧ (dCut d s k).2.room = d.room ∧ (dCut d s k).2.short = d.short ∧ (dCut d s k).2.fuse = chFuse (cutOkF T s k) d.fuse ∧ (dCut d s k).2.n = d.n := by
  have hc : cutOk d s k = cutOkF T s k := by
    unfold cutOk cutOkF
    rw [h.look]
    cases look T s with
    | none => rfl
    | some p => rfl
  unfold dCut rCutE cutT
  rw [hc]
  by_cases h1 : chErr (cutOkF T s k) d.fuse = 0
  · obtain ⟨hok, _⟩ := chErr_ok h1
    have hn : ¬ (chErr (cutOkF T s k) d.fuse ≠ 0) := fun h => h h1
    simp only [if_neg hn]
    rw [h.look, hok]
    cases hx : look T s with
    | none => refine ⟨?_, ?_, ?_, ?_, ?_, ?_⟩ <;> first | rfl | trivial | exact h.perm
    | some p =>
      obtain ⟨b, sy⟩ := p
      refine ⟨?_, ?_, ?_, ?_, ?_, ?_⟩ <;> first | rfl | trivial | exact h.perm.map _
  · simp only [if_pos (show _ ≠ (0 : Int) from h1)]
    refine ⟨?_, ?_, ?_, ?_, ?_, ?_⟩ <;> first | rfl | trivial | exact h.perm
theorem cutT_rising {fuse : Int} (h : T.Pairwise fun a b => a.1 < b.1) (s : List UInt8) (k : Int) : (cutT T s k fuse).Pairwise fun a b => a.1 < b.1 := by
  unfold cutT
  split
  · exact h
  · cases look T s with
    | none => exact h
    | some p => exact setF_rising _ _ _ h
theorem crashF_rising (f : List UInt8 → Tl) (h : T.Pairwise fun a b => a.1 < b.1) : (crashF f T).Pairwise fun a b => a.1 < b.1 := map_rising _ (fun x => rfl) h
end
theorem insF_len (x : Fl) (T : List Fl) : (insF x T).length = T.length + 1 := by rw [(insF_perm x T).length_eq]; rfl
end Go.Proofs.YtmlfeljhojmbbaaGreatDoor

namespace Go.Proofs.YtmlfeljhojmbbaaGreatDoor
open Go.RowKit Go.Maps
set_option linter.unusedSimpArgs false
set_option linter.unusedVariables false
set_option maxRecDepth 100000

theorem dd_inv {w : World} {gd : Nat} {F : List Nat} {d : Ds} (h : DD w gd F d) : used d.S ≤ 1099511627776 ∧ ∀ x ∈ d.S, x.2.2 ≤ x.2.1.length ∧ x.2.1.length ≤ 1048576 := by
  obtain ⟨gm, es, hD, hS, hF⟩ := h
  rw [← hS]
  refine ⟨by unfold fls; rw [used_map]; exact hD.sum, fun x hx => ?_⟩
  obtain ⟨e, he, rfl⟩ := List.mem_map.1 hx
  exact hD.len e he
theorem dd_tight {w : World} {gd : Nat} {F : List Nat} {d : Ds} (h : DD w gd F d) : ∃ F0, DD w gd F0 d ∧ (∀ x ∈ F0, x ∈ F) ∧ ∀ x ∈ F0, x < w.heap.size := by
  obtain ⟨gm, es, hD, hS, hF⟩ := h
  exact ⟨foot gd gm es, ⟨gm, es, hD, hS, fun x hx => hx⟩, hF, fun x hx => hD.lt hx⟩
structure Two (w0 w : World) (gd gx : Nat) (d : Ds) (T : List Fl) (r s f : Int) (Z : List Nat) (H : Nat → Option Obj) : Prop where
  go : ∃ F G, DD w gd F d ∧ NRd w gx G T r s f ∧ (∀ x ∈ F, x ∉ G ∧ w0.heap.size ≤ x ∧ x ∉ Z) ∧ (∀ x ∈ G, w0.heap.size ≤ x ∧ x ∉ Z)
  below : Below w0.heap.size w0 w
  zs : ∀ z ∈ Z, z < w.heap.size ∧ w.heap[z]? = H z
section
variable {w0 w w' : World} {gd gx : Nat} {d : Ds} {T : List Fl} {r s f : Int} {Z : List Nat} {H : Nat → Option Obj}
theorem Two.quiet (h : Two w0 w gd gx d T r s f Z H) (hb : Below w.heap.size w w') : Two w0 w' gd gx d T r s f Z H := by
  obtain ⟨F, G, h1, h2, h3, h4⟩ := h.go
  exact ⟨⟨F, G, Dsk.below h1 hb, h2.below hb, h3, h4⟩, h.below.trans (hb.mono h.below.size), fun z hz => ⟨Nat.lt_of_lt_of_le (h.zs z hz).1 hb.size, (hb.block z (h.zs z hz).1).trans (h.zs z hz).2⟩⟩
theorem Two.drew (h : Two w0 w gd gx d T r s f Z H) : Two w0 w.drew gd gx d T r s f Z H := h.quiet ⟨rfl, rfl, rfl, Nat.le_refl _, fun _ _ => rfl⟩
theorem Two.drewN (h : Two w0 w gd gx d T r s f Z H) (q : Nat) : Two w0 (w.drewN q) gd gx d T r s f Z H := h.quiet ⟨rfl, rfl, rfl, Nat.le_refl _, fun _ _ => rfl⟩
theorem Two.less (h : Two w0 w gd gx d T r s f Z H) {Z' : List Nat} (hz : ∀ z ∈ Z', z ∈ Z) : Two w0 w gd gx d T r s f Z' H := by
  obtain ⟨F, G, h1, h2, h3, h4⟩ := h.go
  exact ⟨⟨F, G, h1, h2, fun x hx => ⟨(h3 x hx).1, (h3 x hx).2.1, fun e => (h3 x hx).2.2 (hz x e)⟩, fun x hx => ⟨(h4 x hx).1, fun e => (h4 x hx).2 (hz x e)⟩⟩, h.below, fun z hz' => h.zs z (hz z hz')⟩
/-- a new block stands beside -/
theorem Two.box (h : Two w0 w gd gx d T r s f Z H) (o : Obj) : Two w0 (w.alloc o) gd gx d T r s f (w.heap.size :: Z) (fun z => if z = w.heap.size then some o else H z) := by
  obtain ⟨F, G, h1, h2, h3, h4⟩ := h.go
  obtain ⟨F0, a1, a2, a3⟩ := dd_tight h1
  obtain ⟨G0, b1, b2, b3⟩ := h2.tight
  have hb : Below w.heap.size w (w.alloc o) := (Below.refl _ w).alloc (Nat.le_refl _) o
  have hq := h.quiet hb
  refine ⟨⟨F0, G0, Dsk.below a1 hb, b1.below hb, fun x hx => ⟨fun hg => (h3 x (a2 x hx)).1 (b2 x hg), (h3 x (a2 x hx)).2.1, fun e => ?_⟩, fun x hx => ⟨(h4 x (b2 x hx)).1, fun e => ?_⟩⟩, hq.below, fun z hz => ?_⟩
  · rcases List.mem_cons.1 e with rfl | e
    · exact Nat.lt_irrefl _ (a3 _ hx)
    · exact (h3 x (a2 x hx)).2.2 e
  · rcases List.mem_cons.1 e with rfl | e
    · exact Nat.lt_irrefl _ (b3 _ hx)
    · exact (h4 x (b2 x hx)).2 e
  · rcases List.mem_cons.1 hz with rfl | hz
    · refine ⟨by rw [World.size_alloc]; omega, ?_⟩
      simp only [if_true]
      exact heap_alloc_new w o
    · have := (h.zs z hz).1
      refine ⟨(hq.zs z hz).1, ?_⟩
      simp only [if_neg (show ¬ z = w.heap.size by omega)]
      exact (hq.zs z hz).2
/-- new blocks of a call stand beside -/
theorem Two.fresh (h : Two w0 w gd gx d T r s f Z H) (hb : Below w.heap.size w w') {Z' : List Nat} (hz : ∀ z ∈ Z', w.heap.size ≤ z ∧ z < w'.heap.size) : Two w0 w' gd gx d T r s f (Z' ++ Z) (fun z => w'.heap[z]?) := by
  obtain ⟨F, G, h1, h2, h3, h4⟩ := h.go
  obtain ⟨F0, a1, a2, a3⟩ := dd_tight h1
  obtain ⟨G0, b1, b2, b3⟩ := h2.tight
  have hq := h.quiet hb
  refine ⟨⟨F0, G0, Dsk.below a1 hb, b1.below hb, fun x hx => ⟨fun hg => (h3 x (a2 x hx)).1 (b2 x hg), (h3 x (a2 x hx)).2.1, fun e => ?_⟩, fun x hx => ⟨(h4 x (b2 x hx)).1, fun e => ?_⟩⟩, hq.below, fun z hz' => ?_⟩
  · rcases List.mem_append.1 e with e | e
    · have := (hz x e).1
      have := a3 x hx
      omega
    · exact (h3 x (a2 x hx)).2.2 e
  · rcases List.mem_append.1 e with e | e
    · have := (hz x e).1
      have := b3 x hx
      omega
    · exact (h4 x (b2 x hx)).2 e
  · rcases List.mem_append.1 hz' with hz' | hz'
    · exact ⟨(hz z hz').2, rfl⟩
    · exact ⟨(hq.zs z hz').1, rfl⟩
theorem Two.prog (h : Two w0 w gd gx d T r s f Z H) : ∃ F, DD w gd F d ∧ (∀ x ∈ F, w0.heap.size ≤ x ∧ x ∉ Z) ∧ ∀ w' d', DStp w w' gd F d' → Two w0 w' gd gx d' T r s f Z H := by
  obtain ⟨F, G, h1, h2, h3, h4⟩ := h.go
  obtain ⟨G0, b1, b2, b3⟩ := h2.tight
  refine ⟨F, h1, fun x hx => (h3 x hx).2, fun w' d' hs => ?_⟩
  obtain ⟨F', c1, c2, c3⟩ := hs
  have hw := h.below.size
  refine ⟨⟨F', G0, c1, b1.kept c2 fun x hx hf => (h3 x hf).1 (b2 x hx), fun x hx => ?_, fun x hx => h4 x (b2 x hx)⟩, c2.below h.below (fun b hb => (h3 b hb).2.1) hw, fun z hz => ?_⟩
  · rcases c3 x hx with hx | hx
    · exact ⟨fun hg => (h3 x hx).1 (b2 x hg), (h3 x hx).2⟩
    · exact ⟨fun hg => by have := b3 x hg; omega, Nat.le_trans hw hx, fun hz => by have := (h.zs x hz).1; omega⟩
  · have h9 := h.zs z hz
    exact ⟨Nat.lt_of_lt_of_le h9.1 c2.size, (c2.block z h9.1 fun hf => (h3 z hf).2.2 hz).trans h9.2⟩
theorem Two.doc (h : Two w0 w gd gx d T r s f Z H) : ∃ G, NRd w gx G T r s f ∧ (∀ x ∈ G, w0.heap.size ≤ x ∧ x ∉ Z) ∧ ∀ w' T' r' s' f', RSt w w' gx G T' r' s' f' → Two w0 w' gd gx d T' r' s' f' Z H := by
  obtain ⟨F, G, h1, h2, h3, h4⟩ := h.go
  obtain ⟨F0, a1, a2, a3⟩ := dd_tight h1
  refine ⟨G, h2, h4, fun w' T' r' s' f' hs => ?_⟩
  obtain ⟨G', c1, c2, c3⟩ := hs
  have hw := h.below.size
  refine ⟨⟨F0, G', Dsk.kept a1 c2 fun x hx hg => (h3 x (a2 x hx)).1 hg, c1, fun x hx => ⟨fun hg => ?_, (h3 x (a2 x hx)).2⟩, fun x hx => ?_⟩, c2.below h.below (fun b hb => (h4 b hb).1) hw, fun z hz => ?_⟩
  · rcases c3 x hg with hg | hg
    · exact (h3 x (a2 x hx)).1 hg
    · have := a3 x hx
      omega
  · rcases c3 x hx with hx | hx
    · exact h4 x hx
    · exact ⟨Nat.le_trans hw hx, fun hz => by have := (h.zs x hz).1; omega⟩
  · have h9 := h.zs z hz
    exact ⟨Nat.lt_of_lt_of_le h9.1 c2.size, (c2.block z h9.1 fun hg => (h4 z hg).2 hz).trans h9.2⟩
/-- a cell of a block that stands beside is written -/
theorem Two.put (h : Two w0 w gd gx d T r s f Z H) {p : Addr} (hp : p.block ∈ Z) (hp0 : w0.heap.size ≤ p.block) (u : Value) : Two w0 (w.setCell p u) gd gx d T r s f (Z.filter fun z => z ≠ p.block) H := by
  obtain ⟨F, G, h1, h2, h3, h4⟩ := h.go
  have hk : Kb w (w.setCell p u) [p.block] := (Kb.refl w _).setCell (by simp) u
  have hzf : ∀ z, z ∈ Z.filter (fun z => z ≠ p.block) → z ∈ Z ∧ z ≠ p.block := fun z hz => by simpa using List.mem_filter.1 hz
  refine ⟨⟨F, G, Dsk.kept h1 hk fun x hx e => ?_, h2.kept hk fun x hx e => ?_, fun x hx => ⟨(h3 x hx).1, (h3 x hx).2.1, fun e => (h3 x hx).2.2 (hzf x e).1⟩, fun x hx => ⟨(h4 x hx).1, fun e => (h4 x hx).2 (hzf x e).1⟩⟩, hk.below h.below (fun b hb => by rw [List.mem_singleton.1 hb]; exact hp0) h.below.size, fun z hz => ?_⟩
  · rw [List.mem_singleton.1 e] at hx
    exact (h3 _ hx).2.2 hp
  · rw [List.mem_singleton.1 e] at hx
    exact (h4 _ hx).2 hp
  · obtain ⟨h5, h6⟩ := hzf z hz
    have h9 := h.zs z h5
    exact ⟨Nat.lt_of_lt_of_le h9.1 hk.size, (hk.block z h9.1 (by simpa using h6)).trans h9.2⟩
/-- blocks that stand beside turn -/
theorem Two.kb (h : Two w0 w gd gx d T r s f Z H) {L : List Nat} (hk : Kb w w' L) (hL : ∀ x ∈ L, x ∈ Z ∧ w0.heap.size ≤ x) {Z' : List Nat} (hz : ∀ z ∈ Z', z ∈ Z ∧ z ∉ L) : Two w0 w' gd gx d T r s f Z' H := by
  obtain ⟨F, G, h1, h2, h3, h4⟩ := h.go
  refine ⟨⟨F, G, Dsk.kept h1 hk fun x hx e => (h3 x hx).2.2 (hL x e).1, h2.kept hk fun x hx e => (h4 x hx).2 (hL x e).1, fun x hx => ⟨(h3 x hx).1, (h3 x hx).2.1, fun e => (h3 x hx).2.2 (hz x e).1⟩, fun x hx => ⟨(h4 x hx).1, fun e => (h4 x hx).2 (hz x e).1⟩⟩, hk.below h.below (fun b hb => (hL b hb).2) h.below.size, fun z hz' => ?_⟩
  have h9 := h.zs z (hz z hz').1
  exact ⟨Nat.lt_of_lt_of_le h9.1 hk.size, (hk.block z h9.1 (hz z hz').2).trans h9.2⟩
end
/-- both disks have the same files -/
structure Pr (w0 w : World) (gd gx : Nat) (d : Ds) (T : List Fl) (N : Nat) (Z : List Nat) (H : Nat → Option Obj) : Prop where
  two : Two w0 w gd gx d T d.room d.short d.fuse Z H
  perm : d.S.Perm T
  rising : T.Pairwise fun a b => a.1 < b.1
  len : T.length ≤ N
  n : d.n ≤ N
  r0 : 0 ≤ d.room
  r1 : d.room ≤ 1099511627776
  s0 : -1 ≤ d.short
  s1 : d.short ≤ 9223372036854775807
  f0 : -1 ≤ d.fuse
  f1 : d.fuse ≤ 9223372036854775807
  names : ∀ x ∈ T, x.1.length ≤ 32
section
variable {w0 w w' : World} {gd gx : Nat} {d : Ds} {T : List Fl} {N : Nat} {Z : List Nat} {H : Nat → Option Obj}
theorem Pr.same (h : Pr w0 w gd gx d T N Z H) (hN : N < 800000) : Same d T := by
  obtain ⟨F, h1, _⟩ := h.two.prog
  obtain ⟨h2, h3⟩ := dd_inv h1
  have hl := h.len
  exact ⟨h.perm, h.rising, by rw [← usedP h.perm]; exact h2, fun x hx => h3 x (h.perm.mem_iff.2 hx), by omega⟩
theorem Pr.ok (h : Pr w0 w gd gx d T N Z H) (hN : N < 800000) : d.Ok := ⟨by have := h.n; omega, h.r0, h.r1, h.s0, h.s1, h.f0, h.f1⟩
theorem Pr.quiet (h : Pr w0 w gd gx d T N Z H) (hb : Below w.heap.size w w') : Pr w0 w' gd gx d T N Z H := ⟨h.two.quiet hb, h.perm, h.rising, h.len, h.n, h.r0, h.r1, h.s0, h.s1, h.f0, h.f1, h.names⟩
theorem Pr.of_two {d' : Ds} {Z' : List Nat} {H' : Nat → Option Obj} (h : Pr w0 w gd gx d T N Z H) (ht : Two w0 w' gd gx d T d.room d.short d.fuse Z' H') : Pr w0 w' gd gx d T N Z' H' := ⟨ht, h.perm, h.rising, h.len, h.n, h.r0, h.r1, h.s0, h.s1, h.f0, h.f1, h.names⟩
theorem Pr.mono (h : Pr w0 w gd gx d T N Z H) {N' : Nat} (hN : N ≤ N') : Pr w0 w gd gx d T N' Z H := ⟨h.two, h.perm, h.rising, Nat.le_trans h.len hN, Nat.le_trans h.n hN, h.r0, h.r1, h.s0, h.s1, h.f0, h.f1, h.names⟩
end
end Go.Proofs.YtmlfeljhojmbbaaGreatDoor

namespace Go.Proofs.YtmlfeljhojmbbaaGreatDoor
open Go.RowKit Go.Maps
set_option linter.unusedSimpArgs false
set_option linter.unusedVariables false
set_option maxRecDepth 100000

section
variable {w w' : World} {gd gx : Nat} {F G : List Nat} {d : Ds} {T : List Fl} {r s f : Int}
theorem dd_list (h : DD w gd F d) (hn : d.n < 1000000000) (hS : Same d T) :
    Calls Tryz.prog 14 #[gp gd] w fun e w' => ∃ v, e = .returned v ∧ Own w' 9 1 v (T.map (·.1)).length ((T.map (·.1)).map Proofs.encStr) ∧ Below w.heap.size w w' ∧ ∀ g, v.ownBlock = some g → w.heap.size ≤ g := by
  obtain ⟨gm, es, hD, hE, hF⟩ := h
  refine list_calls hD hn (by rw [List.pairwise_map]; exact hS.ok.rising) (fun a => ?_)
  have h1 : look (fls es) a = (lookE es a).map fun e => (e.b, e.syn) := look_map es a
  have h2 : look (fls es) a = look T a := by rw [hE]; exact hS.look a
  constructor
  · intro ha e
    rw [e] at h1
    rw [h2] at h1
    obtain ⟨x, hx, rfl⟩ := List.mem_map.1 ha
    exact look_none.1 h1 x hx rfl
  · intro ha
    by_cases hm : a ∈ T.map (·.1)
    · exact hm
    · exfalso
      have h3 : look T a = none := look_none.2 fun x hx e => hm (List.mem_map.2 ⟨x, hx, e⟩)
      rw [h2, h3] at h1
      cases hl : lookE es a with
      | none => exact ha hl
      | some e => rw [hl] at h1; cases h1
theorem dd_used (h : DD w gd F d) (hS : Same d T) : Calls Tryz.prog 66 #[gp gd] w fun e w' => e = .returned (.int .i64 (used T : Int)) ∧ Below w.heap.size w w' := by
  have := dk_used h
  rw [usedP hS.perm] at this
  exact this
theorem rdB_at {A : Option Addr} {n c : Nat} {l : List UInt8} (h : Own w 5 1 (.slice A n c) n (bys l)) : RdB w A l := by
  obtain ⟨A7, c7, e7, hr7, _⟩ := h.form
  injection e7 with e7
  subst e7
  exact rdB_of_rd hr7
set_option maxHeartbeats 2000000 in
theorem same_disks (hd : DD w gd F d) (hx : NRd w gx G T r s f) (hS : Same d T) (hn : d.n < 900000) (hnm : ∀ x ∈ T, x.1.length ≤ 32) :
    Calls Tryz.prog 39 #[gp gd, .pointer (some ⟨gx, 0, none⟩)] w fun e w' => e = .returned (.bool true) ∧ Below w.heap.size w w' := by
  have HD := Shut.mk hd
  have HX := Shut.mk hx
  have HS := Shut.mk hS
  have HNM := Shut.mk hnm
  obtain ⟨N, hN⟩ : ∃ N, N = (T.map (·.1)).length := ⟨_, rfl⟩
  have hNl : N < 900000 := by rw [hN, List.length_map]; exact hS.ok.len
  have HN := Shut.mk hN
  have HRL := Shut.mk (rd_list hx hS.ok)
  rw [← hN] at HRL
  clear hd hx hS hnm hN
  go_enter Tryz.func39, Tryz.ntmps39
  go_wp2_with fail
  refine HRL.out.mono ?_
  rintro e w1 ⟨u, rfl, ho1, hb1, hn1⟩
  have HO1 := Shut.mk ho1
  have HB1 := Shut.mk hb1
  obtain ⟨Au, cu, hu, hrd, hnc, hcm, _⟩ := ho1.form
  subst hu
  have HRD := Shut.mk hrd
  unfold maxLen at hcm
  have HPL := Shut.mk (dd_list (Dsk.below HD.out hb1) (by omega) HS.out)
  rw [← HN.out] at HPL
  clear ho1 hb1 hn1 hrd HRL
  go_wp2_with fail
  refine HPL.out.mono ?_
  rintro e w2 ⟨v2, rfl, ho2, hb2, hn2⟩
  have HB2 := Shut.mk (HB1.out.trans (hb2.mono HB1.out.size))
  have HEQ := Shut.mk (equal_names v2 (.slice Au N cu) (T.map (·.1)) w2 (by rw [← HN.out]; exact ho2) (by rw [← HN.out]; exact HO1.out.below hb2 fun g hg => HO1.out.block_lt hg))
  have HR2 := Shut.mk (HRD.out.keep hb2)
  clear ho2 hb2 hn2 HPL
  go_wp2_with fail
  refine HEQ.out.mono ?_
  rintro e w3 ⟨rfl, hb3⟩
  have HB3 := Shut.mk (HB2.out.trans (hb3.mono HB2.out.size))
  have HR3 := Shut.mk (HR2.out.keep hb3)
  have HU := Shut.mk (dd_used (Dsk.below HD.out HB3.out) HS.out)
  clear hb3 HEQ
  go_wp2_with fail
  refine HU.out.mono ?_
  rintro e w4 ⟨rfl, hb4⟩
  have HB4 := Shut.mk (HB3.out.trans (hb4.mono HB3.out.size))
  have HR4 := Shut.mk (HR3.out.keep hb4)
  have HU2 := Shut.mk (rd_used (HX.out.below HB4.out) HS.out.ok)
  clear hb4 HU
  go_wp2_with fail
  refine HU2.out.mono ?_
  rintro e w5 ⟨rfl, hb5⟩
  have HB5 := Shut.mk (HB4.out.trans (hb5.mono HB4.out.size))
  have HR5 := Shut.mk (HR4.out.keep hb5)
  have hne : ((used T : Int) != (used T : Int)) = false := by simp
  clear hb5 HU2
  go_wp2_with fail
  go_loopw [28] (fun i wr => ∃ k : Nat, k ≤ N ∧ i = .int .i64 k ∧ Below w5.heap.size w5 wr) (fun i _ => N - (intOf i).toNat)
  case atStart => exact ⟨0, Nat.zero_le _, rfl, Below.refl _ _⟩
  case round =>
    obtain ⟨k, hk, rfl, hbr⟩ := hrel
    have HBR := Shut.mk hbr
    by_cases hlt : k < N
    · have hkI : (k : Int) < (N : Int) := by omega
      obtain ⟨x, hx⟩ : ∃ x, T[k]? = some x := ⟨T[k]'(by have := HN.out; rw [List.length_map] at this; omega), List.getElem?_eq_getElem _⟩
      have hxm := List.mem_of_getElem? hx
      have HLK := Shut.mk (show look T x.1 = some (x.2.1, x.2.2) from (look_iff HS.out.ok.keys _ _ _).2 hxm)
      have HN32 := Shut.mk (HNM.out x hxm)
      obtain ⟨nm, hnmq⟩ : ∃ nm : ByteArray, nm = ⟨x.1.toArray⟩ := ⟨_, rfl⟩
      have HNQ := Shut.mk (show nm.data.toList = x.1 by rw [hnmq])
      have hsz : nm.size ≤ reach := by
        rw [Lib.size_eq, HNQ.out]
        have := HN32.out
        unfold reach
        omega
      obtain ⟨ad, rfl, hc⟩ := HR5.out (fun e => by
        have h9 := congrArg List.length e
        rw [List.length_map, ← HN.out] at h9
        simp at h9
        omega)
      have c0 := hc k (.string nm) (by rw [List.getElem?_map, List.getElem?_map, hx]; simp only [Option.map_some]; rw [encStr_form, hnmq])
      have d0 : wr.cell? (ad.add k) = some (.string nm) := (hbr.cell (World.block_lt_of_cell? w5 _ c0)).trans c0
      have HBW := Shut.mk (HB5.out.trans (hbr.mono HB5.out.size))
      have HRP := Shut.mk (dd_read (Dsk.below HD.out HBW.out) nm hsz)
      rw [HNQ.out, HS.out.look, HLK.out] at HRP
      have HSZ := Shut.mk hsz
      clear hc c0 hbr hnmq hx hxm hsz
      go_wp2_with fail
      refine HRP.out.mono ?_
      rintro e w6 ⟨A6, c6, rfl, ho6, hb6, hn6⟩
      have HB6 := Shut.mk (HBW.out.trans (hb6.mono HBW.out.size))
      have HB6' := Shut.mk (HBR.out.trans (hb6.mono HBR.out.size))
      have HO6 := Shut.mk ho6
      have HRX := Shut.mk (rd_read (HX.out.below HB6.out) HS.out.ok nm)
      rw [HNQ.out, HLK.out] at HRX
      clear ho6 hb6 hn6 HRP
      go_wp2_with fail
      refine HRX.out.mono ?_
      rintro e w7 ⟨A7, c7, rfl, ho7, hb7, hn7⟩
      have HB7 := Shut.mk (HB6.out.trans (hb7.mono HB6.out.size))
      have HB7' := Shut.mk (HB6'.out.trans (hb7.mono HB6'.out.size))
      have HQ := Shut.mk (equal_calls A6 A7 _ c6 _ c7 x.2.1 x.2.1 w7 (rdB_at (HO6.out.below hb7 fun g hg => HO6.out.block_lt hg)) (rdB_at ho7) rfl rfl)
      have hbt : (x.2.1 == x.2.1) = true := by simp
      rw [hbt] at HQ
      have HY := Shut.mk (dk_synced (Dsk.below HD.out HB7.out) nm HSZ.out (b := x.2.1) (sy := x.2.2) (by rw [HNQ.out, HS.out.look, HLK.out]))
      have HYX := Shut.mk (rd_synced (HX.out.below HB7.out) HS.out.ok nm)
      rw [HNQ.out, HLK.out] at HYX
      simp only [Option.map_some, Option.getD_some] at HQ HYX
      have hn2 : ((x.2.2 : Int) != (x.2.2 : Int)) = false := by simp
      clear ho7 hb7 hn7 HRX hbt
      go_wp2_with fail
      refine HQ.out.mono ?_
      rintro e w' ⟨rfl, rfl⟩
      go_wp2_with fail
      refine HY.out.mono ?_
      rintro e w' ⟨rfl, rfl⟩
      go_wp2_with fail
      refine HYX.out.mono ?_
      rintro e w8 ⟨rfl, hb8⟩
      have HB8' := Shut.mk (HB7'.out.trans (hb8.mono HB7'.out.size))
      clear hb8
      go_wp2_with fail
      go_roundw
      case rel => exact ⟨k + 1, by omega, by go_num, HB8'.out⟩
      case measure => simp [intOf]; omega
    · obtain rfl : k = N := by omega
      have hkI : ¬ (k : Int) < (k : Int) := by omega
      go_wp2_with fail
      go_ret
      exact ⟨rfl, HB5.out.trans (HBR.out.mono HB5.out.size)⟩
end
end Go.Proofs.YtmlfeljhojmbbaaGreatDoor

namespace Go.Proofs.YtmlfeljhojmbbaaGreatDoor
open Go.RowKit Go.Maps
set_option linter.unusedSimpArgs false
set_option linter.unusedVariables false
set_option maxRecDepth 100000

set_option maxHeartbeats 1000000 in
theorem spoil_calls (Ag : Nat) (A : Option Addr) (m c : Nat) (l : List UInt8) (w : World) (hrow : w.cell? ⟨Ag, 0, none⟩ = some (.slice A m c)) (ho : Own w 5 1 (.slice A m c) m (bys l)) (hm : m ≤ reach) :
    Calls Tryz.prog 23 #[.slice (some ⟨Ag, 0, none⟩) 1 1] w fun e w' => e = .returned (.tuple #[]) ∧ Kb w w' (A.map (·.block)).toList := by
  have hlm : l.length = m := by have := ho.1; rw [bys_length] at this; omega
  have HO := Shut.mk ho
  have HLM := Shut.mk hlm
  unfold reach at hm
  clear ho hlm
  go_enter Tryz.func23, Tryz.ntmps23
  go_wp2_with fail
  go_loopw [7] (fun i wr => (i = .int .i64 0 ∧ wr = w) ∨ (i = .int .i64 1 ∧ Kb w wr (A.map (·.block)).toList)) (fun i _ => 1 - (intOf i).toNat)
  case atStart => exact .inl ⟨rfl, rfl⟩
  case round =>
    rcases hrel with ⟨rfl, rfl⟩ | ⟨rfl, hk⟩
    · go_wp2_with fail
      go_loopw [13] (fun j wi => ∃ (k : Nat) (l' : List UInt8), k ≤ m ∧ j = .int .i64 k ∧ l'.length = m ∧ Own wi 5 1 (.slice A m c) m (bys l') ∧ Kb wr wi (A.map (·.block)).toList) (fun j _ => m - (intOf j).toNat)
      case atStart => exact ⟨0, l, Nat.zero_le _, rfl, HLM.out, HO.out, Kb.refl _ _⟩
      case round =>
        obtain ⟨k, l', hk, rfl, hl', hoi, hki⟩ := hrel
        have HKI := Shut.mk hki
        by_cases hlt : k < m
        · obtain ⟨g, cap, hg, _⟩ := hoi.head (by omega)
          injection hg with h1 h2 h3
          subst h1
          subst h3
          clear h2
          obtain ⟨x, hx⟩ : ∃ x, x = l'.getD k 0 := ⟨_, rfl⟩
          have c0 := hoi.cell k (bys_get l' k (by omega))
          rw [← hx] at c0
          have cf := hoi.free k
          have hkI : (k : Int) < (m : Int) := by omega
          have hxo : bits .xor .u8 (x.toNat : Int) 255 = ((x ^^^ 255).toNat : Int) := Pcrc.xor_u8 x 255
          have HS := Shut.mk (hoi.set k (.int .u8 ((x ^^^ 255).toNat : Int)))
          have hxn : (x ^^^ 255).toNat = x.toNat ^^^ 255 := rfl
          rw [hxn] at HS
          have HL := Shut.mk hl'
          have HKS := Shut.mk (HKI.out.setCell (p := ⟨g, k, none⟩) (by simp) (.int .u8 ((x.toNat ^^^ 255 : Nat) : Int)))
          have HBS := Shut.mk (bys_set l' k (x ^^^ 255))
          rw [hxn] at HBS
          clear hoi hx hl' hki hxn
          go_wp2_with fail
          go_roundw
          case rel => exact ⟨k + 1, l'.set k (x ^^^ 255), by omega, by go_num, by rw [List.length_set, HL.out], by rw [HBS.out]; exact HS.out, HKS.out⟩
          case measure => simp [intOf]; omega
        · obtain rfl : k = m := by omega
          have hkI : ¬ (k : Int) < (k : Int) := by omega
          go_wp2_with fail
          go_roundw
          case rel => exact .inr ⟨rfl, HKI.out⟩
          case measure => simp [intOf]
    · go_wp2_with fail
      go_end0
      exact ⟨rfl, hk⟩
end Go.Proofs.YtmlfeljhojmbbaaGreatDoor

namespace Go.Proofs.YtmlfeljhojmbbaaGreatDoor
open Go.RowKit Go.Maps
set_option linter.unusedSimpArgs false
set_option linter.unusedVariables false
set_option maxRecDepth 100000

theorem u64_natS (a : Int) : ∃ n : Nat, IntKind.u64.wrap a = (n : Int) ∧ (n : Int) < 18446744073709551616 := by
  rw [IntKind.wrap_u64]
  exact ⟨(a % 18446744073709551616).toNat, by omega, by omega⟩
theorem tmod_natS (a b : Nat) (h : 0 < b) : ∃ m : Nat, m < b ∧ (a : Int).tmod (b : Int) = (m : Int) :=
  ⟨a % b, Nat.mod_lt _ h, by rw [Int.tmod_eq_emod_of_nonneg (by omega)]; simp⟩
theorem nameOk_len {s : List UInt8} (h : nameOk s = true) : s.length ≤ 32 := by
  unfold nameOk at h
  simp only [Bool.and_eq_true, decide_eq_true_eq] at h
  exact h.1.2
theorem setF_names {T : List Fl} {k b : List UInt8} {sy : Nat} (h : ∀ x ∈ T, x.1.length ≤ 32) : ∀ x ∈ setF T k b sy, x.1.length ≤ 32 := by
  intro x hx
  unfold setF at hx
  obtain ⟨y, hy, rfl⟩ := List.mem_map.1 hx
  split
  · rename_i he
    rw [← beq_iff_eq.1 he]
    exact h y hy
  · exact h y hy
theorem insF_names {T : List Fl} {x : Fl} (h : ∀ y ∈ T, y.1.length ≤ 32) (hx : x.1.length ≤ 32) : ∀ y ∈ insF x T, y.1.length ≤ 32 := by
  intro y hy
  rcases List.mem_cons.1 ((insF_perm x T).mem_iff.1 hy) with rfl | hy
  · exact hx
  · exact h y hy
theorem delF_names {T : List Fl} {k : List UInt8} (h : ∀ y ∈ T, y.1.length ≤ 32) : ∀ y ∈ delF T k, y.1.length ≤ 32 := fun y hy => h y (List.mem_filter.1 hy).1
theorem appT_names {T : List Fl} {room short fuse : Int} {s b : List UInt8} (h : ∀ x ∈ T, x.1.length ≤ 32) : ∀ x ∈ appT T room short fuse s b, x.1.length ≤ 32 := by
  unfold appT
  split
  · exact h
  · rename_i h1
    split
    · exact h
    · have hok := (chErr_ok (by simpa using h1)).1
      unfold addT
      cases hx : look T s with
      | none => exact insF_names h (nameOk_len hok)
      | some p =>
        obtain ⟨b0, sy⟩ := p
        simp only []
        rw [addF_setF hx]
        exact setF_names h
theorem appT_len {T : List Fl} {room short fuse : Int} {s b : List UInt8} : (appT T room short fuse s b).length ≤ T.length + 1 := by
  unfold appT
  split
  · omega
  · split
    · omega
    · unfold addT
      cases hx : look T s with
      | none => exact Nat.le_of_eq (insF_len _ _)
      | some p =>
        obtain ⟨b0, sy⟩ := p
        simp only []
        rw [addF_setF hx]
        unfold setF
        rw [List.length_map]
        omega
theorem syncT_len {T : List Fl} {fuse : Int} {s : List UInt8} : (syncT T s fuse).length = T.length := by
  unfold syncT
  split
  · rfl
  · cases look T s with
    | none => rfl
    | some p => simp [setF]
theorem syncT_names {T : List Fl} {fuse : Int} {s : List UInt8} (h : ∀ x ∈ T, x.1.length ≤ 32) : ∀ x ∈ syncT T s fuse, x.1.length ≤ 32 := by
  unfold syncT
  split
  · exact h
  · cases look T s with
    | none => exact h
    | some p => exact setF_names h
theorem delT_len {T : List Fl} {fuse : Int} {s : List UInt8} : (delT T s fuse).length ≤ T.length := by
  unfold delT
  split
  · exact Nat.le_refl _
  · split
    · exact List.length_filter_le _ _
    · exact Nat.le_refl _
theorem delT_names {T : List Fl} {fuse : Int} {s : List UInt8} (h : ∀ x ∈ T, x.1.length ≤ 32) : ∀ x ∈ delT T s fuse, x.1.length ≤ 32 := by
  unfold delT
  split
  · exact h
  · split
    · exact delF_names h
    · exact h
theorem cutT_len {T : List Fl} {fuse k : Int} {s : List UInt8} : (cutT T s k fuse).length = T.length := by
  unfold cutT
  split
  · rfl
  · cases look T s with
    | none => rfl
    | some p => simp [setF]
theorem cutT_names {T : List Fl} {fuse k : Int} {s : List UInt8} (h : ∀ x ∈ T, x.1.length ≤ 32) : ∀ x ∈ cutT T s k fuse, x.1.length ≤ 32 := by
  unfold cutT
  split
  · exact h
  · cases look T s with
    | none => exact h
    | some p => exact setF_names h
theorem renT_len {T : List Fl} {fuse : Int} {a z : List UInt8} : (renT T a z fuse).length ≤ T.length + 1 := by
  unfold renT
  split
  · omega
  · cases look T a with
    | none => simp
    | some p =>
      simp only [Option.elim_some]
      rw [insF_len]
      have h1 : (delF (delF T a) z).length ≤ (delF T a).length := List.length_filter_le _ _
      have h2 : (delF T a).length ≤ T.length := List.length_filter_le _ _
      omega
theorem renT_names {T : List Fl} {fuse : Int} {a z : List UInt8} (h : ∀ x ∈ T, x.1.length ≤ 32) : ∀ x ∈ renT T a z fuse, x.1.length ≤ 32 := by
  unfold renT
  split
  · exact h
  · rename_i h1
    have hok := (chErr_ok (by simpa using h1)).1
    cases look T a with
    | none => exact h
    | some p => exact insF_names (delF_names (delF_names h)) (nameOk_len hok)
theorem crashF_names {T : List Fl} {g : List UInt8 → Tl} (h : ∀ x ∈ T, x.1.length ≤ 32) : ∀ x ∈ crashF g T, x.1.length ≤ 32 := by
  intro x hx
  unfold crashF at hx
  obtain ⟨y, hy, rfl⟩ := List.mem_map.1 hx
  exact h y hy
section
variable {w0 w : World} {gd gx : Nat} {d : Ds} {T : List Fl} {N : Nat} {Z : List Nat} {H : Nat → Option Obj}
abbrev gq (g : Nat) : Value := .pointer (some ⟨g, 0, none⟩)
/-- both calls answer E -/
def Both (w0 w : World) (gd gx : Nat) (d : Ds) (T : List Fl) (N : Nat) (Z : List Nat) (H : Nat → Option Obj) (f g : FuncId) (vs : List Value) (E E' : Value) (d' : Ds) (T' : List Fl) : Prop :=
  (Calls Tryz.prog f (gp gd :: vs).toArray w fun e w' => e = .returned E ∧ Two w0 w' gd gx d' T d.room d.short d.fuse Z H) ∧
  ∀ w', Two w0 w' gd gx d' T d.room d.short d.fuse Z H → Calls Tryz.prog g (gq gx :: vs).toArray w' fun e w'' => e = .returned E' ∧ Pr w0 w'' gd gx d' T' (N + 1) Z H
theorem both_sync (h : Pr w0 w gd gx d T N Z H) (hN : N < 700000) (s : ByteArray) (hs : s.size ≤ reach) : ∃ E d' T', Both w0 w gd gx d T N Z H 24 25 [.string s] (.int .i64 E) (.int .i64 E) d' T' := by
  have hS := h.same (by omega)
  obtain ⟨h1, h2, h3, h4, h5, h6⟩ := dSync_same hS s.data.toList
  refine ⟨(dSync d s.data.toList).1, (dSync d s.data.toList).2, syncT T s.data.toList d.fuse, ?_, fun w' hw => ?_⟩
  · obtain ⟨F, hD, _, hst⟩ := h.two.prog
    exact (dd_sync hD (h.ok (by omega)) s hs).mono fun e w' ⟨he, ha⟩ => ⟨he, hst _ _ ha⟩
  · obtain ⟨G, hX, _, hst⟩ := hw.doc
    have := chFuse_range (ok := true) h.f0 h.f1
    exact (rd_sync hX hS.ok h.f0 h.f1 s).mono fun e w' ⟨he, ha⟩ => ⟨by rw [he, h1], ⟨by rw [h3, h4, h5]; exact hst _ _ _ _ _ ha, h2, syncT_rising h.rising _, by rw [syncT_len]; have := h.len; omega, by rw [h6]; have := h.n; omega, by rw [h3]; exact h.r0, by rw [h3]; exact h.r1, by rw [h4]; exact h.s0, by rw [h4]; exact h.s1, by rw [h5]; exact this.1, by rw [h5]; exact this.2, syncT_names h.names⟩⟩
theorem both_remove (h : Pr w0 w gd gx d T N Z H) (hN : N < 700000) (s : ByteArray) (hs : s.size ≤ reach) : ∃ E d' T', Both w0 w gd gx d T N Z H 30 31 [.string s] (.int .i64 E) (.int .i64 E) d' T' := by
  have hS := h.same (by omega)
  obtain ⟨h1, h2, h3, h4, h5, h6⟩ := dDel_same hS s.data.toList
  refine ⟨(dDel d s.data.toList).1, (dDel d s.data.toList).2, delT T s.data.toList d.fuse, ?_, fun w' hw => ?_⟩
  · obtain ⟨F, hD, _, hst⟩ := h.two.prog
    exact (dd_remove hD (h.ok (by omega)) s hs).mono fun e w' ⟨he, ha⟩ => ⟨he, hst _ _ ha⟩
  · obtain ⟨G, hX, _, hst⟩ := hw.doc
    have := chFuse_range (ok := true) h.f0 h.f1
    exact (rd_remove hX hS.ok h.f0 h.f1 s).mono fun e w' ⟨he, ha⟩ => ⟨by rw [he, h1], ⟨by rw [h3, h4, h5]; exact hst _ _ _ _ _ ha, h2, delT_rising h.rising _, Nat.le_trans delT_len (by have := h.len; omega), by rw [h6]; have := h.n; omega, by rw [h3]; exact h.r0, by rw [h3]; exact h.r1, by rw [h4]; exact h.s0, by rw [h4]; exact h.s1, by rw [h5]; exact this.1, by rw [h5]; exact this.2, delT_names h.names⟩⟩
theorem both_rename (h : Pr w0 w gd gx d T N Z H) (hN : N < 700000) (s t : ByteArray) (hs : s.size ≤ reach) (ht : t.size ≤ reach) : ∃ E d' T', Both w0 w gd gx d T N Z H 28 29 [.string s, .string t] (.int .i64 E) (.int .i64 E) d' T' := by
  have hS := h.same (by omega)
  obtain ⟨h1, h2, h3, h4, h5, h6⟩ := dRen_same hS s.data.toList t.data.toList
  refine ⟨(dRen d s.data.toList t.data.toList).1, (dRen d s.data.toList t.data.toList).2, renT T s.data.toList t.data.toList d.fuse, ?_, fun w' hw => ?_⟩
  · obtain ⟨F, hD, _, hst⟩ := h.two.prog
    exact (dd_rename hD (h.ok (by omega)) s t hs ht).mono fun e w' ⟨he, ha⟩ => ⟨he, hst _ _ ha⟩
  · obtain ⟨G, hX, _, hst⟩ := hw.doc
    have := chFuse_range (ok := nameOk t.data.toList) h.f0 h.f1
    exact (rd_rename hX hS.ok h.f0 h.f1 s t ht).mono fun e w' ⟨he, ha⟩ => ⟨by rw [he, h1], ⟨by rw [h3, h4, h5]; exact hst _ _ _ _ _ ha, h2, renT_rising h.rising _ _, Nat.le_trans renT_len (by have := h.len; omega), Nat.le_trans h6 (by have := h.n; omega), by rw [h3]; exact h.r0, by rw [h3]; exact h.r1, by rw [h4]; exact h.s0, by rw [h4]; exact h.s1, by rw [h5]; exact this.1, by rw [h5]; exact this.2, renT_names h.names⟩⟩
theorem both_cut (h : Pr w0 w gd gx d T N Z H) (hN : N < 700000) (s : ByteArray) (k : Int) (hs : s.size ≤ reach) : ∃ E d' T', Both w0 w gd gx d T N Z H 26 27 [.string s, .int .i64 k] (.int .i64 E) (.int .i64 E) d' T' := by
  have hS := h.same (by omega)
  obtain ⟨h1, h2, h3, h4, h5, h6⟩ := dCut_same hS s.data.toList k
  refine ⟨(dCut d s.data.toList k).1, (dCut d s.data.toList k).2, cutT T s.data.toList k d.fuse, ?_, fun w' hw => ?_⟩
  · obtain ⟨F, hD, _, hst⟩ := h.two.prog
    exact (dd_cut hD (h.ok (by omega)) s k hs).mono fun e w' ⟨he, ha⟩ => ⟨he, hst _ _ ha⟩
  · obtain ⟨G, hX, _, hst⟩ := hw.doc
    have := chFuse_range (ok := cutOkF T s.data.toList k) h.f0 h.f1
    exact (rd_cut hX hS.ok h.f0 h.f1 s k).mono fun e w' ⟨he, ha⟩ => ⟨by rw [he, h1], ⟨by rw [h3, h4, h5]; exact hst _ _ _ _ _ ha, h2, cutT_rising h.rising _ _, by rw [cutT_len]; have := h.len; omega, by rw [h6]; have := h.n; omega, by rw [h3]; exact h.r0, by rw [h3]; exact h.r1, by rw [h4]; exact h.s0, by rw [h4]; exact h.s1, by rw [h5]; exact this.1, by rw [h5]; exact this.2, cutT_names h.names⟩⟩
theorem both_short (h : Pr w0 w gd gx d T N Z H) (x : Int) (hx : x ≤ 9223372036854775807) : ∃ E d' T', Both w0 w gd gx d T N Z H 32 33 [.int .i64 x] (.int .i64 E) (.int .i64 E) d' T' := by
  refine ⟨if x < 0 then 1 else 0, { d with short := if x < 0 then d.short else x }, T, ?_, fun w' hw => ?_⟩
  · obtain ⟨F, hD, _, hst⟩ := h.two.prog
    exact (dk_short hD x).mono fun e w' ⟨he, ha⟩ => ⟨he, hst _ { d with short := if x < 0 then d.short else x } ha⟩
  · obtain ⟨G, hX, _, hst⟩ := hw.doc
    exact (rd_short hX x).mono fun e w' ⟨he, ha⟩ => ⟨he, ⟨hst _ _ _ _ _ ha, h.perm, h.rising, Nat.le_succ_of_le h.len, Nat.le_succ_of_le h.n, h.r0, h.r1, by
      show -1 ≤ (if x < 0 then d.short else x)
      have := h.s0
      split <;> omega, by
      show (if x < 0 then d.short else x) ≤ _
      have := h.s1
      split <;> omega, h.f0, h.f1, h.names⟩⟩
theorem both_fuse (h : Pr w0 w gd gx d T N Z H) (x : Int) (hx : x ≤ 9223372036854775807) : ∃ E d' T', Both w0 w gd gx d T N Z H 12 36 [.int .i64 x] (.int .i64 E) (.int .i64 E) d' T' := by
  refine ⟨if x < 0 then 1 else 0, { d with fuse := if x < 0 then d.fuse else x }, T, ?_, fun w' hw => ?_⟩
  · obtain ⟨F, hD, _, hst⟩ := h.two.prog
    exact (dk_fuse hD x).mono fun e w' ⟨he, ha⟩ => ⟨he, hst _ { d with fuse := if x < 0 then d.fuse else x } ha⟩
  · obtain ⟨G, hX, _, hst⟩ := hw.doc
    exact (rd_fuse hX x).mono fun e w' ⟨he, ha⟩ => ⟨he, ⟨hst _ _ _ _ _ ha, h.perm, h.rising, Nat.le_succ_of_le h.len, Nat.le_succ_of_le h.n, h.r0, h.r1, h.s0, h.s1, by
      show -1 ≤ (if x < 0 then d.fuse else x)
      have := h.f0
      split <;> omega, by
      show (if x < 0 then d.fuse else x) ≤ _
      have := h.f1
      split <;> omega, h.names⟩⟩
theorem both_room (h : Pr w0 w gd gx d T N Z H) (x : Int) : ∃ E d' T', Both w0 w gd gx d T N Z H 34 35 [.int .i64 x] (.int .i64 E) (.int .i64 E) d' T' := by
  refine ⟨if x < 0 ∨ 1099511627776 < x then 1 else 0, { d with room := if x < 0 ∨ 1099511627776 < x then d.room else x }, T, ?_, fun w' hw => ?_⟩
  · obtain ⟨F, hD, _, hst⟩ := h.two.prog
    exact (dk_room hD x).mono fun e w' ⟨he, ha⟩ => ⟨he, hst _ { d with room := if x < 0 ∨ 1099511627776 < x then d.room else x } ha⟩
  · obtain ⟨G, hX, _, hst⟩ := hw.doc
    exact (rd_room hX x).mono fun e w' ⟨he, ha⟩ => ⟨he, ⟨hst _ _ _ _ _ ha, h.perm, h.rising, Nat.le_succ_of_le h.len, Nat.le_succ_of_le h.n, by
      show 0 ≤ (if x < 0 ∨ 1099511627776 < x then d.room else x)
      have := h.r0
      split <;> omega, by
      show (if x < 0 ∨ 1099511627776 < x then d.room else x) ≤ _
      have := h.r1
      split <;> omega, h.s0, h.s1, h.f0, h.f1, h.names⟩⟩
theorem both_append (h : Pr w0 w gd gx d T N Z H) (hN : N < 700000) (s : ByteArray) (A A' : Option Addr) (m c c' : Nat) (b : List UInt8) (hs : s.size ≤ reach) (hr : RdB w A b) (hm : b.length = m) (hmc : m ≤ c) (hml : m ≤ reach) (hmc' : m ≤ c') :
    ∃ (n : Nat) (E : Int) (d' : Ds) (T' : List Fl), (Calls Tryz.prog 21 #[gp gd, .string s, .slice A m c] w fun e w' => e = .returned (.tuple #[.int .i64 (n : Int), .int .i64 E]) ∧ Two w0 w' gd gx d' T d.room d.short d.fuse Z H) ∧
      ∀ w', Two w0 w' gd gx d' T d.room d.short d.fuse Z H → RdB w' A' b → Calls Tryz.prog 22 #[gq gx, .string s, .slice A' m c'] w' fun e w'' => e = .returned (.tuple #[.int .i64 (n : Int), .int .i64 E]) ∧ Pr w0 w'' gd gx d' T' (N + 1) Z H := by
  have hS := h.same (by omega)
  obtain ⟨h1, h2, h3, h4, h5, h6, h7⟩ := dApp_same hS s.data.toList b
  refine ⟨(dApp d s.data.toList b).2.1, (dApp d s.data.toList b).1, (dApp d s.data.toList b).2.2, appT T d.room d.short d.fuse s.data.toList b, ?_, fun w' hw hr' => ?_⟩
  · obtain ⟨F, hD, _, hst⟩ := h.two.prog
    exact (dd_append hD (h.ok (by omega)) s A m c b hs hr hm hmc hml).mono fun e w' ⟨he, ha⟩ => ⟨he, hst _ _ ha⟩
  · obtain ⟨G, hX, _, hst⟩ := hw.doc
    have hsf : -1 ≤ (dApp d s.data.toList b).2.2.short ∧ (dApp d s.data.toList b).2.2.short ≤ 9223372036854775807 ∧ -1 ≤ (dApp d s.data.toList b).2.2.fuse ∧ (dApp d s.data.toList b).2.2.fuse ≤ 9223372036854775807 := by
      have e1 := chFuse_range (ok := nameOk s.data.toList) h.f0 h.f1
      have e2 := chFuse_range (ok := true) h.f0 h.f1
      have e3 := h.s0
      have e4 := h.s1
      unfold dApp
      split
      · exact ⟨e3, e4, e1.1, e1.2⟩
      · split
        · exact ⟨by simp, by simp, e2.1, e2.2⟩
        · exact ⟨by simp, by simp, e2.1, e2.2⟩
    exact (rd_append hX hS.ok h.r0 h.r1 h.s0 h.s1 h.f0 h.f1 s A' m c' b hs hr' hm hmc' hml).mono fun e w' ⟨he, ha⟩ => ⟨by rw [he, ← h1, ← h2], ⟨by rw [h5, h3, h4]; exact hst _ _ _ _ _ ha, h7, appT_rising h.rising _ _, Nat.le_trans appT_len (by have := h.len; omega), Nat.le_trans h6 (by have := h.n; omega), by rw [h5]; exact h.r0, by rw [h5]; exact h.r1, hsf.1, hsf.2.1, hsf.2.2.1, hsf.2.2.2, appT_names h.names⟩⟩
/-- a crash of both: the document's first -/
theorem both_crash (h : Pr w0 w gd gx d T N Z H) (hN : N < 700000) (A : Option Addr) (cap : Nat) (tl : List Tl) (hlen : tl.length < 9000000000000) (hR : RdT w0 A tl) (hA : ∀ ad, A = some ad → tl ≠ [] → ad.block < w0.heap.size) :
    ∃ (d' : Ds) (T' : List Fl), (Calls Tryz.prog 37 #[gq gx, .slice A tl.length cap] w fun e w' => e = .returned (.tuple #[]) ∧ Two w0 w' gd gx d T' d.room (-1) (-1) Z H) ∧
      ∀ w', Two w0 w' gd gx d T' d.room (-1) (-1) Z H → Calls Tryz.prog 16 #[gp gd, .slice A tl.length cap] w' fun e w'' => e = .returned (.int .i64 0) ∧ Pr w0 w'' gd gx d' T' (N + 1) Z H := by
  have hS := h.same (by omega)
  refine ⟨dCrash d tl, crashF (fun s => (tailOf tl s).getD zeroT) T, ?_, fun w' hw => ?_⟩
  · obtain ⟨G, hX, hG, hst⟩ := h.two.doc
    refine (rd_crash hX hS.ok A cap tl hlen (hR.below h.two.below hA) (fun ad h1 h2 => ⟨Nat.lt_of_lt_of_le (hA ad h1 h2) h.two.below.size, fun hc => ?_⟩)).mono fun e w' ⟨he, ha⟩ => ⟨he, hst _ _ _ _ _ ha⟩
    have := (hG _ hc).1
    have := hA ad h1 h2
    omega
  · obtain ⟨F, hD, _, hst⟩ := hw.prog
    obtain ⟨gm, es, hE, hES, hF⟩ := hD
    refine (crash_calls hE A cap tl hlen (hR.below hw.below hA) (fun ad h1 h2 => Nat.lt_of_lt_of_le (hA ad h1 h2) hw.below.size)).mono ?_
    rintro e w'' ⟨he, ha⟩
    refine ⟨he, ⟨?_, h.perm.map _, crashF_rising _ h.rising, by unfold crashF; rw [List.length_map]; exact Nat.le_succ_of_le h.len, Nat.le_succ_of_le h.n, h.r0, h.r1, (show (-1 : Int) ≤ -1 by decide), (show (-1 : Int) ≤ 9223372036854775807 by decide), (show (-1 : Int) ≤ -1 by decide), (show (-1 : Int) ≤ 9223372036854775807 by decide), crashF_names h.names⟩⟩
    refine hst w'' (dCrash d tl) ?_
    have h9 := Stp.of_after ha hF
    rw [hES] at h9
    exact h9
end
end Go.Proofs.YtmlfeljhojmbbaaGreatDoor

namespace Go.Proofs.YtmlfeljhojmbbaaGreatDoor
open Go.RowKit Go.Maps
set_option linter.unusedSimpArgs false
set_option linter.unusedVariables false
set_option maxRecDepth 100000

theorem clone_at (A : Option Addr) (cap n : Nat) (l : List UInt8) (w : World) (hr : RdB w A l) (hn : l.length = n) (hm : n ≤ reach) :
    Calls Tryz.prog 20 #[.slice A n cap] w fun e w' => ∃ v, e = .returned v ∧ Own w' 5 1 v n (bys l) ∧ Below w.heap.size w w' ∧ (∀ g, v.ownBlock = some g → w.heap.size ≤ g) := by
  subst hn
  exact clone_calls A cap l w hr hm
section
variable {w0 w : World} {gd gx : Nat} {d : Ds} {T : List Fl} {N : Nat} {Z : List Nat} {H : Nat → Option Obj}
set_option maxHeartbeats 8000000 in
theorem steps_calls (h : Pr w0 w gd gx d T N Z H) (hN : N < 700000) (op n : Int) (nm to : ByteArray) (B At : Option Addr) (m c ct : Nat) (b : List UInt8) (tl : List Tl) (hn1 : -9223372036854775808 ≤ n) (hn2 : n ≤ 9223372036854775807) (hnm : nm.size ≤ reach) (hto : to.size ≤ reach)
    (hb : RdB w0 B b) (hm : b.length = m) (hmc : m ≤ c) (hml : m ≤ reach) (hlen : tl.length < 9000000000000) (hR : RdT w0 At tl) (hA : ∀ ad, At = some ad → tl ≠ [] → ad.block < w0.heap.size) :
    Calls Tryz.prog 6 #[gp gd, gq gx, .agg #[.int .i64 op, .int .i64 n, .string nm, .string to, .slice B m c, .slice At tl.length ct]] w fun e w' => e = .returned (.bool true) ∧ ∃ d' T', Pr w0 w' gd gx d' T' (N + 1) Z H := by
  obtain ⟨N0, hN0, hB0⟩ := u64_natS op
  obtain ⟨r, hr5, hT0⟩ := tmod_natS N0 12 (by omega)
  have hT0' : ((N0 : Int).tmod 12) = (r : Int) := hT0
  have hwi : IntKind.i64.wrap (r : Int) = (r : Int) := by rw [IntKind.wrap_i64]; omega
  clear hT0
  obtain ⟨g, hg⟩ : ∃ g, g = w.heap.size := ⟨_, rfl⟩
  have hP := h.two.box (.cells #[.int .i64 op, .int .i64 n, .string nm, .string to, .slice B m c, .slice At tl.length ct] 30)
  have HB := Shut.mk (Blk.new w 30 #[.int .i64 op, .int .i64 n, .string nm, .string to, .slice B m c, .slice At tl.length ct])
  have HPR := Shut.mk (h.of_two (d' := d) hP)
  have HBR := Shut.mk hb
  have HTR := Shut.mk hR
  have HM := Shut.mk hm
  have HLESS := Shut.mk (fun (w9 : World) (d9 : Ds) (T9 : List Fl) (h9 : Pr w0 w9 gd gx d9 T9 (N + 1) (w.heap.size :: Z) (fun z => if z = w.heap.size then some (.cells #[.int .i64 op, .int .i64 n, .string nm, .string to, .slice B m c, .slice At tl.length ct] 30) else H z)) => (by
    have h8 := h9.two.less (Z' := Z) (fun z hz => List.mem_cons_of_mem _ hz)
    have hlt : ∀ z ∈ Z, z < w.heap.size := fun z hz => (h.two.zs z hz).1
    refine h9.of_two (d' := d9) ⟨h8.go, h8.below, fun z hz => ⟨(h8.zs z hz).1, (h8.zs z hz).2.trans ?_⟩⟩
    have := hlt z hz
    simp only [if_neg (show ¬ z = w.heap.size by omega)] : Pr w0 w9 gd gx d9 T9 (N + 1) Z H))
  have HCL := Shut.mk (fun (w9 : World) (d9 : Ds) (T9 : List Fl) (r9 s9 f9 : Int) (h9 : Two w0 w9 gd gx d9 T9 r9 s9 f9 (w.heap.size :: Z) (fun z => if z = w.heap.size then some (.cells #[.int .i64 op, .int .i64 n, .string nm, .string to, .slice B m c, .slice At tl.length ct] 30) else H z)) => (by
    have h8 := (h9.zs w.heap.size (by simp)).2
    simp only [if_true] at h8
    exact h8 : Blk w9 w.heap.size 30 #[.int .i64 op, .int .i64 n, .string nm, .string to, .slice B m c, .slice At tl.length ct]))
  obtain ⟨Hg, hHg⟩ : ∃ Hg, Hg = (fun z => if z = w.heap.size then some (.cells #[.int .i64 op, .int .i64 n, .string nm, .string to, .slice B m c, .slice At tl.length ct] 30) else H z) := ⟨_, rfl⟩
  rw [← hHg] at HPR HLESS HCL
  rw [← hg] at HPR HLESS HCL HB
  obtain ⟨W, hW⟩ : ∃ W, W = w.alloc (.cells #[.int .i64 op, .int .i64 n, .string nm, .string to, .slice B m c, .slice At tl.length ct] 30) := ⟨_, rfl⟩
  rw [← hW] at HPR HB
  have hsW : W.heap.size = g + 1 := by rw [hW, hg]; simp
  have HSW := Shut.mk hsW
  have c0 : W.cell? ⟨g, 0, none⟩ = some (.int .i64 op) := HB.out.cell 0
  have c1 : W.cell? ⟨g, 1, none⟩ = some (.int .i64 n) := HB.out.cell 1
  have c2 : W.cell? ⟨g, 2, none⟩ = some (.string nm) := HB.out.cell 2
  have c3 : W.cell? ⟨g, 3, none⟩ = some (.string to) := HB.out.cell 3
  have c4 : W.cell? ⟨g, 4, none⟩ = some (.slice B m c) := HB.out.cell 4
  have c5 : W.cell? ⟨g, 5, none⟩ = some (.slice At tl.length ct) := HB.out.cell 5
  clear hP hb hR hm hHg h hsW
  go_enter Tryz.func6, Tryz.ntmps6
  go_upto_region 1 with fail
  rw [← hW, ← hg]
  have HG := Shut.mk hg
  clear hg hW
  go_upto_region 4 with fail
  clear hwi hT0' hN0
  have hr : r = 0 ∨ r = 1 ∨ r = 2 ∨ r = 3 ∨ r = 4 ∨ r = 5 ∨ r = 6 ∨ r = 7 ∨ r = 8 ∨ r = 9 ∨ r = 10 ∨ r = 11 := by omega
  clear hr5
  rcases hr with rfl | rfl | rfl | rfl | rfl | rfl | rfl | rfl | rfl | rfl | rfl | rfl
  · skip
    have HCN := Shut.mk (clone_at B c m b W (HBR.out.keep HPR.out.two.below) HM.out hml)
    go_wp2_with fail
    refine HCN.out.mono ?_
    rintro e w1 ⟨v1, rfl, ho1, hb1, hn1⟩
    obtain ⟨A1, k1, hv1, hr1, hk1, hk2, hk3, _⟩ := ho1.form
    subst hv1
    have HO1 := Shut.mk ho1
    have HB1 := Shut.mk hb1
    have HN1 := Shut.mk hn1
    have hT1 := HPR.out.two.fresh hb1 (Z' := (Value.slice A1 m k1).ownBlock.toList) (fun z hz => by
      have hz' : (Value.slice A1 m k1).ownBlock = some z := by simpa using hz
      exact ⟨HN1.out z hz', HO1.out.block_lt hz'⟩)
    have HP1 := Shut.mk (HPR.out.of_two (d' := d) hT1)
    have HBG := Shut.mk (HB.out.below hb1 HB.out.lt)
    obtain ⟨n1, E, d1, T1, hA1, hX1⟩ := both_append HP1.out hN nm A1 B m k1 c b hnm (rdB_at ho1) HM.out hk1 hml hmc
    have HA1 := Shut.mk hA1
    have HX1 := Shut.mk hX1
    have e2 : w1.cell? ⟨g, 2, none⟩ = some (.string nm) := HBG.out.cell 2
    have e4 : w1.cell? ⟨g, 4, none⟩ = some (.slice B m c) := HBG.out.cell 4
    have hgz : ∀ (w9 : World) (d9 : Ds) (T9 : List Fl) (r9 s9 f9 : Int), Two w0 w9 gd gx d9 T9 r9 s9 f9 ((Value.slice A1 m k1).ownBlock.toList ++ g :: Z) (fun z => w1.heap[z]?) → Blk w9 g 30 #[.int .i64 op, .int .i64 n, .string nm, .string to, .slice B m c, .slice At tl.length ct] ∧ Own w9 5 1 (.slice A1 m k1) m (bys b) := fun w9 d9 T9 r9 s9 f9 h9 => by
      refine ⟨((h9.zs g (by simp)).2).trans HBG.out, HO1.out.keep fun z hz => (h9.zs z (by simp [hz])).2⟩
    have HGZ := Shut.mk hgz
    clear ho1 hn1 hT1 hA1 hX1 hr1 hgz hb1
    go_wp2_with fail
    refine HA1.out.mono ?_
    rintro e w2 ⟨rfl, hT2⟩
    have f2 : w2.cell? ⟨g, 2, none⟩ = some (.string nm) := (HGZ.out _ _ _ _ _ _ hT2).1.cell 2
    have f4 : w2.cell? ⟨g, 4, none⟩ = some (.slice B m c) := (HGZ.out _ _ _ _ _ _ hT2).1.cell 4
    have HX2 := Shut.mk (HX1.out w2 hT2 (HBR.out.keep hT2.below))
    clear hT2
    go_wp2_with fail
    refine HX2.out.mono ?_
    rintro e w3 ⟨rfl, hP3⟩
    have HP3 := Shut.mk hP3
    have HO3 := Shut.mk (HGZ.out _ _ _ _ _ _ hP3.two).2
    have HSP := Shut.mk (spoil_calls w3.heap.size A1 m k1 b (w3.alloc (.cells #[.slice A1 m k1] 27)) ((Blk.new w3 27 #[.slice A1 m k1]).cell 0) (HO3.out.alloc _) hml)
    clear hP3
    go_wp2_with fail
    refine HSP.out.mono ?_
    rintro e w4 ⟨rfl, hk4⟩
    have hq := HP3.out.quiet (w' := w3.alloc (.cells #[.slice A1 m k1] 27)) ((Below.refl _ w3).alloc (Nat.le_refl _) _)
    have hown : ∀ z, z ∈ (A1.map (·.block)).toList → (Value.slice A1 m k1).ownBlock = some z := fun z hz => by rw [hk3]; simpa using hz
    have hgA : ∀ z ∈ g :: Z, z ∉ (A1.map (·.block)).toList := fun z hz hc => by
      have h1 := HN1.out z (hown z hc)
      rcases List.mem_cons.1 hz with rfl | hz
      · have := HB.out.lt
        omega
      · have := (HPR.out.two.zs z (by simp [hz])).1
        omega
    have h4 := hq.two.kb hk4 (fun x hx => ⟨by simp [hown x hx], by
      have h1 := HN1.out x (hown x hx)
      have h2 := HPR.out.two.below.size
      omega⟩) (Z' := g :: Z) (fun z hz => ⟨by simp at hz; simp [hz], hgA z hz⟩)
    have h5 : Pr w0 w4 gd gx d1 T1 (N + 1) (g :: Z) Hg := hq.of_two (d' := d1) ⟨h4.go, h4.below, fun z hz => ⟨(h4.zs z hz).1, (h4.zs z hz).2.trans (by
      have h8 := (HPR.out.two.zs z hz).2
      have h9 := (HP1.out.two.zs z (by simp at hz; simp [hz])).2
      rw [← h8]
      exact (HB1.out.block z (HPR.out.two.zs z hz).1))⟩⟩
    have HF := Shut.mk (HLESS.out _ _ _ h5)
    have hnn : ((n1 : Int) == (n1 : Int)) = true := by simp
    have hee : (E == E) = true := by simp
    clear hq h4 h5 hgA hown hk4
    go_wp2_with fail
    go_ret
    exact ⟨rfl, _, _, HF.out⟩
  · skip
    have HCN := Shut.mk (clone_at B c m b W (HBR.out.keep HPR.out.two.below) HM.out hml)
    go_wp2_with fail
    refine HCN.out.mono ?_
    rintro e w1 ⟨v1, rfl, ho1, hb1, hn1⟩
    obtain ⟨A1, k1, hv1, hr1, hk1, hk2, hk3, _⟩ := ho1.form
    subst hv1
    have HO1 := Shut.mk ho1
    have HB1 := Shut.mk hb1
    have HN1 := Shut.mk hn1
    have hT1 := HPR.out.two.fresh hb1 (Z' := (Value.slice A1 m k1).ownBlock.toList) (fun z hz => by
      have hz' : (Value.slice A1 m k1).ownBlock = some z := by simpa using hz
      exact ⟨HN1.out z hz', HO1.out.block_lt hz'⟩)
    have HP1 := Shut.mk (HPR.out.of_two (d' := d) hT1)
    have HBG := Shut.mk (HB.out.below hb1 HB.out.lt)
    obtain ⟨n1, E, d1, T1, hA1, hX1⟩ := both_append HP1.out hN nm A1 B m k1 c b hnm (rdB_at ho1) HM.out hk1 hml hmc
    have HA1 := Shut.mk hA1
    have HX1 := Shut.mk hX1
    have e2 : w1.cell? ⟨g, 2, none⟩ = some (.string nm) := HBG.out.cell 2
    have e4 : w1.cell? ⟨g, 4, none⟩ = some (.slice B m c) := HBG.out.cell 4
    have hgz : ∀ (w9 : World) (d9 : Ds) (T9 : List Fl) (r9 s9 f9 : Int), Two w0 w9 gd gx d9 T9 r9 s9 f9 ((Value.slice A1 m k1).ownBlock.toList ++ g :: Z) (fun z => w1.heap[z]?) → Blk w9 g 30 #[.int .i64 op, .int .i64 n, .string nm, .string to, .slice B m c, .slice At tl.length ct] ∧ Own w9 5 1 (.slice A1 m k1) m (bys b) := fun w9 d9 T9 r9 s9 f9 h9 => by
      refine ⟨((h9.zs g (by simp)).2).trans HBG.out, HO1.out.keep fun z hz => (h9.zs z (by simp [hz])).2⟩
    have HGZ := Shut.mk hgz
    clear ho1 hn1 hT1 hA1 hX1 hr1 hgz hb1
    go_wp2_with fail
    refine HA1.out.mono ?_
    rintro e w2 ⟨rfl, hT2⟩
    have f2 : w2.cell? ⟨g, 2, none⟩ = some (.string nm) := (HGZ.out _ _ _ _ _ _ hT2).1.cell 2
    have f4 : w2.cell? ⟨g, 4, none⟩ = some (.slice B m c) := (HGZ.out _ _ _ _ _ _ hT2).1.cell 4
    have HX2 := Shut.mk (HX1.out w2 hT2 (HBR.out.keep hT2.below))
    clear hT2
    go_wp2_with fail
    refine HX2.out.mono ?_
    rintro e w3 ⟨rfl, hP3⟩
    have HP3 := Shut.mk hP3
    have HO3 := Shut.mk (HGZ.out _ _ _ _ _ _ hP3.two).2
    have HSP := Shut.mk (spoil_calls w3.heap.size A1 m k1 b (w3.alloc (.cells #[.slice A1 m k1] 27)) ((Blk.new w3 27 #[.slice A1 m k1]).cell 0) (HO3.out.alloc _) hml)
    clear hP3
    go_wp2_with fail
    refine HSP.out.mono ?_
    rintro e w4 ⟨rfl, hk4⟩
    have hq := HP3.out.quiet (w' := w3.alloc (.cells #[.slice A1 m k1] 27)) ((Below.refl _ w3).alloc (Nat.le_refl _) _)
    have hown : ∀ z, z ∈ (A1.map (·.block)).toList → (Value.slice A1 m k1).ownBlock = some z := fun z hz => by rw [hk3]; simpa using hz
    have hgA : ∀ z ∈ g :: Z, z ∉ (A1.map (·.block)).toList := fun z hz hc => by
      have h1 := HN1.out z (hown z hc)
      rcases List.mem_cons.1 hz with rfl | hz
      · have := HB.out.lt
        omega
      · have := (HPR.out.two.zs z (by simp [hz])).1
        omega
    have h4 := hq.two.kb hk4 (fun x hx => ⟨by simp [hown x hx], by
      have h1 := HN1.out x (hown x hx)
      have h2 := HPR.out.two.below.size
      omega⟩) (Z' := g :: Z) (fun z hz => ⟨by simp at hz; simp [hz], hgA z hz⟩)
    have h5 : Pr w0 w4 gd gx d1 T1 (N + 1) (g :: Z) Hg := hq.of_two (d' := d1) ⟨h4.go, h4.below, fun z hz => ⟨(h4.zs z hz).1, (h4.zs z hz).2.trans (by
      have h8 := (HPR.out.two.zs z hz).2
      have h9 := (HP1.out.two.zs z (by simp at hz; simp [hz])).2
      rw [← h8]
      exact (HB1.out.block z (HPR.out.two.zs z hz).1))⟩⟩
    have HF := Shut.mk (HLESS.out _ _ _ h5)
    have hnn : ((n1 : Int) == (n1 : Int)) = true := by simp
    have hee : (E == E) = true := by simp
    clear hq h4 h5 hgA hown hk4
    go_wp2_with fail
    go_ret
    exact ⟨rfl, _, _, HF.out⟩
  · skip
    have HCN := Shut.mk (clone_at B c m b W (HBR.out.keep HPR.out.two.below) HM.out hml)
    go_wp2_with fail
    refine HCN.out.mono ?_
    rintro e w1 ⟨v1, rfl, ho1, hb1, hn1⟩
    obtain ⟨A1, k1, hv1, hr1, hk1, hk2, hk3, _⟩ := ho1.form
    subst hv1
    have HO1 := Shut.mk ho1
    have HB1 := Shut.mk hb1
    have HN1 := Shut.mk hn1
    have hT1 := HPR.out.two.fresh hb1 (Z' := (Value.slice A1 m k1).ownBlock.toList) (fun z hz => by
      have hz' : (Value.slice A1 m k1).ownBlock = some z := by simpa using hz
      exact ⟨HN1.out z hz', HO1.out.block_lt hz'⟩)
    have HP1 := Shut.mk (HPR.out.of_two (d' := d) hT1)
    have HBG := Shut.mk (HB.out.below hb1 HB.out.lt)
    obtain ⟨n1, E, d1, T1, hA1, hX1⟩ := both_append HP1.out hN nm A1 B m k1 c b hnm (rdB_at ho1) HM.out hk1 hml hmc
    have HA1 := Shut.mk hA1
    have HX1 := Shut.mk hX1
    have e2 : w1.cell? ⟨g, 2, none⟩ = some (.string nm) := HBG.out.cell 2
    have e4 : w1.cell? ⟨g, 4, none⟩ = some (.slice B m c) := HBG.out.cell 4
    have hgz : ∀ (w9 : World) (d9 : Ds) (T9 : List Fl) (r9 s9 f9 : Int), Two w0 w9 gd gx d9 T9 r9 s9 f9 ((Value.slice A1 m k1).ownBlock.toList ++ g :: Z) (fun z => w1.heap[z]?) → Blk w9 g 30 #[.int .i64 op, .int .i64 n, .string nm, .string to, .slice B m c, .slice At tl.length ct] ∧ Own w9 5 1 (.slice A1 m k1) m (bys b) := fun w9 d9 T9 r9 s9 f9 h9 => by
      refine ⟨((h9.zs g (by simp)).2).trans HBG.out, HO1.out.keep fun z hz => (h9.zs z (by simp [hz])).2⟩
    have HGZ := Shut.mk hgz
    clear ho1 hn1 hT1 hA1 hX1 hr1 hgz hb1
    go_wp2_with fail
    refine HA1.out.mono ?_
    rintro e w2 ⟨rfl, hT2⟩
    have f2 : w2.cell? ⟨g, 2, none⟩ = some (.string nm) := (HGZ.out _ _ _ _ _ _ hT2).1.cell 2
    have f4 : w2.cell? ⟨g, 4, none⟩ = some (.slice B m c) := (HGZ.out _ _ _ _ _ _ hT2).1.cell 4
    have HX2 := Shut.mk (HX1.out w2 hT2 (HBR.out.keep hT2.below))
    clear hT2
    go_wp2_with fail
    refine HX2.out.mono ?_
    rintro e w3 ⟨rfl, hP3⟩
    have HP3 := Shut.mk hP3
    have HO3 := Shut.mk (HGZ.out _ _ _ _ _ _ hP3.two).2
    have HSP := Shut.mk (spoil_calls w3.heap.size A1 m k1 b (w3.alloc (.cells #[.slice A1 m k1] 27)) ((Blk.new w3 27 #[.slice A1 m k1]).cell 0) (HO3.out.alloc _) hml)
    clear hP3
    go_wp2_with fail
    refine HSP.out.mono ?_
    rintro e w4 ⟨rfl, hk4⟩
    have hq := HP3.out.quiet (w' := w3.alloc (.cells #[.slice A1 m k1] 27)) ((Below.refl _ w3).alloc (Nat.le_refl _) _)
    have hown : ∀ z, z ∈ (A1.map (·.block)).toList → (Value.slice A1 m k1).ownBlock = some z := fun z hz => by rw [hk3]; simpa using hz
    have hgA : ∀ z ∈ g :: Z, z ∉ (A1.map (·.block)).toList := fun z hz hc => by
      have h1 := HN1.out z (hown z hc)
      rcases List.mem_cons.1 hz with rfl | hz
      · have := HB.out.lt
        omega
      · have := (HPR.out.two.zs z (by simp [hz])).1
        omega
    have h4 := hq.two.kb hk4 (fun x hx => ⟨by simp [hown x hx], by
      have h1 := HN1.out x (hown x hx)
      have h2 := HPR.out.two.below.size
      omega⟩) (Z' := g :: Z) (fun z hz => ⟨by simp at hz; simp [hz], hgA z hz⟩)
    have h5 : Pr w0 w4 gd gx d1 T1 (N + 1) (g :: Z) Hg := hq.of_two (d' := d1) ⟨h4.go, h4.below, fun z hz => ⟨(h4.zs z hz).1, (h4.zs z hz).2.trans (by
      have h8 := (HPR.out.two.zs z hz).2
      have h9 := (HP1.out.two.zs z (by simp at hz; simp [hz])).2
      rw [← h8]
      exact (HB1.out.block z (HPR.out.two.zs z hz).1))⟩⟩
    have HF := Shut.mk (HLESS.out _ _ _ h5)
    have hnn : ((n1 : Int) == (n1 : Int)) = true := by simp
    have hee : (E == E) = true := by simp
    clear hq h4 h5 hgA hown hk4
    go_wp2_with fail
    go_ret
    exact ⟨rfl, _, _, HF.out⟩
  · skip
    have HCN := Shut.mk (clone_at B c m b W (HBR.out.keep HPR.out.two.below) HM.out hml)
    go_wp2_with fail
    refine HCN.out.mono ?_
    rintro e w1 ⟨v1, rfl, ho1, hb1, hn1⟩
    obtain ⟨A1, k1, hv1, hr1, hk1, hk2, hk3, _⟩ := ho1.form
    subst hv1
    have HO1 := Shut.mk ho1
    have HB1 := Shut.mk hb1
    have HN1 := Shut.mk hn1
    have hT1 := HPR.out.two.fresh hb1 (Z' := (Value.slice A1 m k1).ownBlock.toList) (fun z hz => by
      have hz' : (Value.slice A1 m k1).ownBlock = some z := by simpa using hz
      exact ⟨HN1.out z hz', HO1.out.block_lt hz'⟩)
    have HP1 := Shut.mk (HPR.out.of_two (d' := d) hT1)
    have HBG := Shut.mk (HB.out.below hb1 HB.out.lt)
    obtain ⟨n1, E, d1, T1, hA1, hX1⟩ := both_append HP1.out hN nm A1 B m k1 c b hnm (rdB_at ho1) HM.out hk1 hml hmc
    have HA1 := Shut.mk hA1
    have HX1 := Shut.mk hX1
    have e2 : w1.cell? ⟨g, 2, none⟩ = some (.string nm) := HBG.out.cell 2
    have e4 : w1.cell? ⟨g, 4, none⟩ = some (.slice B m c) := HBG.out.cell 4
    have hgz : ∀ (w9 : World) (d9 : Ds) (T9 : List Fl) (r9 s9 f9 : Int), Two w0 w9 gd gx d9 T9 r9 s9 f9 ((Value.slice A1 m k1).ownBlock.toList ++ g :: Z) (fun z => w1.heap[z]?) → Blk w9 g 30 #[.int .i64 op, .int .i64 n, .string nm, .string to, .slice B m c, .slice At tl.length ct] ∧ Own w9 5 1 (.slice A1 m k1) m (bys b) := fun w9 d9 T9 r9 s9 f9 h9 => by
      refine ⟨((h9.zs g (by simp)).2).trans HBG.out, HO1.out.keep fun z hz => (h9.zs z (by simp [hz])).2⟩
    have HGZ := Shut.mk hgz
    clear ho1 hn1 hT1 hA1 hX1 hr1 hgz hb1
    go_wp2_with fail
    refine HA1.out.mono ?_
    rintro e w2 ⟨rfl, hT2⟩
    have f2 : w2.cell? ⟨g, 2, none⟩ = some (.string nm) := (HGZ.out _ _ _ _ _ _ hT2).1.cell 2
    have f4 : w2.cell? ⟨g, 4, none⟩ = some (.slice B m c) := (HGZ.out _ _ _ _ _ _ hT2).1.cell 4
    have HX2 := Shut.mk (HX1.out w2 hT2 (HBR.out.keep hT2.below))
    clear hT2
    go_wp2_with fail
    refine HX2.out.mono ?_
    rintro e w3 ⟨rfl, hP3⟩
    have HP3 := Shut.mk hP3
    have HO3 := Shut.mk (HGZ.out _ _ _ _ _ _ hP3.two).2
    have HSP := Shut.mk (spoil_calls w3.heap.size A1 m k1 b (w3.alloc (.cells #[.slice A1 m k1] 27)) ((Blk.new w3 27 #[.slice A1 m k1]).cell 0) (HO3.out.alloc _) hml)
    clear hP3
    go_wp2_with fail
    refine HSP.out.mono ?_
    rintro e w4 ⟨rfl, hk4⟩
    have hq := HP3.out.quiet (w' := w3.alloc (.cells #[.slice A1 m k1] 27)) ((Below.refl _ w3).alloc (Nat.le_refl _) _)
    have hown : ∀ z, z ∈ (A1.map (·.block)).toList → (Value.slice A1 m k1).ownBlock = some z := fun z hz => by rw [hk3]; simpa using hz
    have hgA : ∀ z ∈ g :: Z, z ∉ (A1.map (·.block)).toList := fun z hz hc => by
      have h1 := HN1.out z (hown z hc)
      rcases List.mem_cons.1 hz with rfl | hz
      · have := HB.out.lt
        omega
      · have := (HPR.out.two.zs z (by simp [hz])).1
        omega
    have h4 := hq.two.kb hk4 (fun x hx => ⟨by simp [hown x hx], by
      have h1 := HN1.out x (hown x hx)
      have h2 := HPR.out.two.below.size
      omega⟩) (Z' := g :: Z) (fun z hz => ⟨by simp at hz; simp [hz], hgA z hz⟩)
    have h5 : Pr w0 w4 gd gx d1 T1 (N + 1) (g :: Z) Hg := hq.of_two (d' := d1) ⟨h4.go, h4.below, fun z hz => ⟨(h4.zs z hz).1, (h4.zs z hz).2.trans (by
      have h8 := (HPR.out.two.zs z hz).2
      have h9 := (HP1.out.two.zs z (by simp at hz; simp [hz])).2
      rw [← h8]
      exact (HB1.out.block z (HPR.out.two.zs z hz).1))⟩⟩
    have HF := Shut.mk (HLESS.out _ _ _ h5)
    have hnn : ((n1 : Int) == (n1 : Int)) = true := by simp
    have hee : (E == E) = true := by simp
    clear hq h4 h5 hgA hown hk4
    go_wp2_with fail
    go_ret
    exact ⟨rfl, _, _, HF.out⟩
  · have hPD := HPR.out.quiet (w' := W.drew) ⟨rfl, rfl, rfl, Nat.le_refl _, fun _ _ => rfl⟩
    obtain ⟨E, d1, T1, hB1, hB2⟩ := both_sync hPD hN nm hnm
    have HP1 := Shut.mk hB1
    have HX1 := Shut.mk hB2
    clear hPD hB1 hB2
    go_wp2_with fail
    go_region_held3 (fun w' => w'.cell? ⟨g, 2, none⟩ = some (.string nm))
      (first | exact c2 | exact e2 | exact f2 | go_keep)
      (first
        | (go_at_call 24
           refine HP1.out.mono ?_
           rintro e w2 ⟨rfl, hT2⟩
           have hblk := HCL.out _ _ _ _ _ _ hT2
           have e2 : w2.cell? ⟨g, 2, none⟩ = some (.string nm) := hblk.cell 2
           have HT2 := Shut.mk hT2
           have HX2 := Shut.mk (HX1.out w2 hT2)
           clear hT2 hblk)
        | (go_at_call 25
           refine HX2.out.mono ?_
           rintro e w3 ⟨rfl, hT3⟩
           have hblk := HCL.out _ _ _ _ _ _ hT3.two
           have f2 : w3.cell? ⟨g, 2, none⟩ = some (.string nm) := hblk.cell 2
           have HT3 := Shut.mk (HLESS.out _ _ _ hT3)
           clear hT3 hblk))
    go_wp2_with fail
    go_ret
    exact ⟨rfl, _, _, HT3.out⟩
  · have hPD := HPR.out.quiet (w' := W.drew) ⟨rfl, rfl, rfl, Nat.le_refl _, fun _ _ => rfl⟩
    obtain ⟨E, d1, T1, hB1, hB2⟩ := both_cut hPD hN nm n hnm
    have HP1 := Shut.mk hB1
    have HX1 := Shut.mk hB2
    clear hPD hB1 hB2
    go_wp2_with fail
    go_region_held3 (fun w' => w'.cell? ⟨g, 1, none⟩ = some (.int .i64 n) ∧ w'.cell? ⟨g, 2, none⟩ = some (.string nm))
      (first | exact ⟨c1, c2⟩ | exact ⟨e1, e2⟩ | exact ⟨f1, f2⟩ | go_keep)
      (first
        | (go_at_call 26
           refine HP1.out.mono ?_
           rintro e w2 ⟨rfl, hT2⟩
           have hblk := HCL.out _ _ _ _ _ _ hT2
           have e1 : w2.cell? ⟨g, 1, none⟩ = some (.int .i64 n) := hblk.cell 1
           have e2 : w2.cell? ⟨g, 2, none⟩ = some (.string nm) := hblk.cell 2
           have HT2 := Shut.mk hT2
           have HX2 := Shut.mk (HX1.out w2 hT2)
           clear hT2 hblk)
        | (go_at_call 27
           refine HX2.out.mono ?_
           rintro e w3 ⟨rfl, hT3⟩
           have hblk := HCL.out _ _ _ _ _ _ hT3.two
           have f1 : w3.cell? ⟨g, 1, none⟩ = some (.int .i64 n) := hblk.cell 1
           have f2 : w3.cell? ⟨g, 2, none⟩ = some (.string nm) := hblk.cell 2
           have HT3 := Shut.mk (HLESS.out _ _ _ hT3)
           clear hT3 hblk))
    go_wp2_with fail
    go_ret
    exact ⟨rfl, _, _, HT3.out⟩
  · have hPD := HPR.out.quiet (w' := W.drew) ⟨rfl, rfl, rfl, Nat.le_refl _, fun _ _ => rfl⟩
    obtain ⟨E, d1, T1, hB1, hB2⟩ := both_rename hPD hN nm to hnm hto
    have HP1 := Shut.mk hB1
    have HX1 := Shut.mk hB2
    clear hPD hB1 hB2
    go_wp2_with fail
    go_region_held3 (fun w' => w'.cell? ⟨g, 2, none⟩ = some (.string nm) ∧ w'.cell? ⟨g, 3, none⟩ = some (.string to))
      (first | exact ⟨c2, c3⟩ | exact ⟨e2, e3⟩ | exact ⟨f2, f3⟩ | go_keep)
      (first
        | (go_at_call 28
           refine HP1.out.mono ?_
           rintro e w2 ⟨rfl, hT2⟩
           have hblk := HCL.out _ _ _ _ _ _ hT2
           have e2 : w2.cell? ⟨g, 2, none⟩ = some (.string nm) := hblk.cell 2
           have e3 : w2.cell? ⟨g, 3, none⟩ = some (.string to) := hblk.cell 3
           have HT2 := Shut.mk hT2
           have HX2 := Shut.mk (HX1.out w2 hT2)
           clear hT2 hblk)
        | (go_at_call 29
           refine HX2.out.mono ?_
           rintro e w3 ⟨rfl, hT3⟩
           have hblk := HCL.out _ _ _ _ _ _ hT3.two
           have f2 : w3.cell? ⟨g, 2, none⟩ = some (.string nm) := hblk.cell 2
           have f3 : w3.cell? ⟨g, 3, none⟩ = some (.string to) := hblk.cell 3
           have HT3 := Shut.mk (HLESS.out _ _ _ hT3)
           clear hT3 hblk))
    go_wp2_with fail
    go_ret
    exact ⟨rfl, _, _, HT3.out⟩
  · have hPD := HPR.out.quiet (w' := W.drew) ⟨rfl, rfl, rfl, Nat.le_refl _, fun _ _ => rfl⟩
    obtain ⟨E, d1, T1, hB1, hB2⟩ := both_remove hPD hN nm hnm
    have HP1 := Shut.mk hB1
    have HX1 := Shut.mk hB2
    clear hPD hB1 hB2
    go_wp2_with fail
    go_region_held3 (fun w' => w'.cell? ⟨g, 2, none⟩ = some (.string nm))
      (first | exact c2 | exact e2 | exact f2 | go_keep)
      (first
        | (go_at_call 30
           refine HP1.out.mono ?_
           rintro e w2 ⟨rfl, hT2⟩
           have hblk := HCL.out _ _ _ _ _ _ hT2
           have e2 : w2.cell? ⟨g, 2, none⟩ = some (.string nm) := hblk.cell 2
           have HT2 := Shut.mk hT2
           have HX2 := Shut.mk (HX1.out w2 hT2)
           clear hT2 hblk)
        | (go_at_call 31
           refine HX2.out.mono ?_
           rintro e w3 ⟨rfl, hT3⟩
           have hblk := HCL.out _ _ _ _ _ _ hT3.two
           have f2 : w3.cell? ⟨g, 2, none⟩ = some (.string nm) := hblk.cell 2
           have HT3 := Shut.mk (HLESS.out _ _ _ hT3)
           clear hT3 hblk))
    go_wp2_with fail
    go_ret
    exact ⟨rfl, _, _, HT3.out⟩
  · have hPD := HPR.out.quiet (w' := W.drew) ⟨rfl, rfl, rfl, Nat.le_refl _, fun _ _ => rfl⟩
    obtain ⟨E, d1, T1, hB1, hB2⟩ := both_short hPD n hn2
    have HP1 := Shut.mk hB1
    have HX1 := Shut.mk hB2
    clear hPD hB1 hB2
    go_wp2_with fail
    go_region_held3 (fun w' => w'.cell? ⟨g, 1, none⟩ = some (.int .i64 n))
      (first | exact c1 | exact e1 | exact f1 | go_keep)
      (first
        | (go_at_call 32
           refine HP1.out.mono ?_
           rintro e w2 ⟨rfl, hT2⟩
           have hblk := HCL.out _ _ _ _ _ _ hT2
           have e1 : w2.cell? ⟨g, 1, none⟩ = some (.int .i64 n) := hblk.cell 1
           have HT2 := Shut.mk hT2
           have HX2 := Shut.mk (HX1.out w2 hT2)
           clear hT2 hblk)
        | (go_at_call 33
           refine HX2.out.mono ?_
           rintro e w3 ⟨rfl, hT3⟩
           have hblk := HCL.out _ _ _ _ _ _ hT3.two
           have f1 : w3.cell? ⟨g, 1, none⟩ = some (.int .i64 n) := hblk.cell 1
           have HT3 := Shut.mk (HLESS.out _ _ _ hT3)
           clear hT3 hblk))
    go_wp2_with fail
    go_ret
    exact ⟨rfl, _, _, HT3.out⟩
  · have hPD := HPR.out.quiet (w' := W.drew) ⟨rfl, rfl, rfl, Nat.le_refl _, fun _ _ => rfl⟩
    obtain ⟨E, d1, T1, hB1, hB2⟩ := both_room hPD n
    have HP1 := Shut.mk hB1
    have HX1 := Shut.mk hB2
    clear hPD hB1 hB2
    go_wp2_with fail
    go_region_held3 (fun w' => w'.cell? ⟨g, 1, none⟩ = some (.int .i64 n))
      (first | exact c1 | exact e1 | exact f1 | go_keep)
      (first
        | (go_at_call 34
           refine HP1.out.mono ?_
           rintro e w2 ⟨rfl, hT2⟩
           have hblk := HCL.out _ _ _ _ _ _ hT2
           have e1 : w2.cell? ⟨g, 1, none⟩ = some (.int .i64 n) := hblk.cell 1
           have HT2 := Shut.mk hT2
           have HX2 := Shut.mk (HX1.out w2 hT2)
           clear hT2 hblk)
        | (go_at_call 35
           refine HX2.out.mono ?_
           rintro e w3 ⟨rfl, hT3⟩
           have hblk := HCL.out _ _ _ _ _ _ hT3.two
           have f1 : w3.cell? ⟨g, 1, none⟩ = some (.int .i64 n) := hblk.cell 1
           have HT3 := Shut.mk (HLESS.out _ _ _ hT3)
           clear hT3 hblk))
    go_wp2_with fail
    go_ret
    exact ⟨rfl, _, _, HT3.out⟩
  · have hPD := HPR.out.quiet (w' := W.drew) ⟨rfl, rfl, rfl, Nat.le_refl _, fun _ _ => rfl⟩
    obtain ⟨E, d1, T1, hB1, hB2⟩ := both_fuse hPD n hn2
    have HP1 := Shut.mk hB1
    have HX1 := Shut.mk hB2
    clear hPD hB1 hB2
    go_wp2_with fail
    go_region_held3 (fun w' => w'.cell? ⟨g, 1, none⟩ = some (.int .i64 n))
      (first | exact c1 | exact e1 | exact f1 | go_keep)
      (first
        | (go_at_call 12
           refine HP1.out.mono ?_
           rintro e w2 ⟨rfl, hT2⟩
           have hblk := HCL.out _ _ _ _ _ _ hT2
           have e1 : w2.cell? ⟨g, 1, none⟩ = some (.int .i64 n) := hblk.cell 1
           have HT2 := Shut.mk hT2
           have HX2 := Shut.mk (HX1.out w2 hT2)
           clear hT2 hblk)
        | (go_at_call 36
           refine HX2.out.mono ?_
           rintro e w3 ⟨rfl, hT3⟩
           have hblk := HCL.out _ _ _ _ _ _ hT3.two
           have f1 : w3.cell? ⟨g, 1, none⟩ = some (.int .i64 n) := hblk.cell 1
           have HT3 := Shut.mk (HLESS.out _ _ _ hT3)
           clear hT3 hblk))
    go_wp2_with fail
    go_ret
    exact ⟨rfl, _, _, HT3.out⟩
  · obtain ⟨d1, T1, hX1, hP1⟩ := both_crash HPR.out hN At ct tl hlen HTR.out hA
    have HX1 := Shut.mk hX1
    have HP1 := Shut.mk hP1
    clear hX1 hP1
    go_wp2_with fail
    refine HX1.out.mono ?_
    rintro e w2 ⟨rfl, hT2⟩
    have f5 : w2.cell? ⟨g, 5, none⟩ = some (.slice At tl.length ct) := (HCL.out _ _ _ _ _ _ hT2).cell 5
    have HP2 := Shut.mk (HP1.out w2 hT2)
    clear hT2
    go_wp2_with fail
    refine HP2.out.mono ?_
    rintro e w3 ⟨rfl, hP3⟩
    have HF := Shut.mk (HLESS.out _ _ _ hP3)
    clear hP3
    go_wp2_with fail
    go_ret
    exact ⟨rfl, _, _, HF.out⟩
end
end Go.Proofs.YtmlfeljhojmbbaaGreatDoor
