/- The program's disk beside the document's: the same files, the same answers. -/
import Derived.Test.YtjmaimpfplojpaaRdS
namespace Go.Proofs.Ytjmaimpfplojpaa
open Go.RowKit Go.Maps
set_option linter.unusedSimpArgs false
set_option linter.unusedVariables false
set_option maxRecDepth 100000

abbrev Keyd (S : List Fl) : Prop := S.Pairwise fun a b => a.1 ≠ b.1
theorem keyd_perm {S T : List Fl} (h : S.Perm T) (hk : Keyd T) : Keyd S := h.symm.pairwise hk fun h e => h e.symm
theorem look_iff {S : List Fl} (hk : Keyd S) (s b : List UInt8) (sy : Nat) : look S s = some (b, sy) ↔ (s, b, sy) ∈ S := by
  unfold look
  constructor
  · intro h
    cases hx : S.find? fun x => x.1 == s with
    | none => rw [hx] at h; cases h
    | some x =>
      rw [hx] at h
      have h1 : x.2 = (b, sy) := by injection h
      have h2 : x.1 = s := by simpa using List.find?_some hx
      have h3 := List.mem_of_find?_eq_some hx
      have h4 : x = (s, b, sy) := by rw [← h1, ← h2]
      rwa [h4] at h3
  · intro h
    cases hx : S.find? fun x => x.1 == s with
    | none =>
      have := List.find?_eq_none.1 hx _ h
      simp at this
    | some x =>
      have h2 : x.1 = s := by simpa using List.find?_some hx
      have h3 := List.mem_of_find?_eq_some hx
      have h4 : x = (s, b, sy) := by
        by_cases e : x = (s, b, sy)
        · exact e
        · exact absurd h2 (pw_of (R := fun a b : Fl => a.1 ≠ b.1) (fun h e => h e.symm) hk h3 h e)
      rw [h4]
      rfl
theorem look_perm {S T : List Fl} (h : S.Perm T) (hk : Keyd T) (s : List UInt8) : look S s = look T s := by
  cases ht : look T s with
  | none =>
    rw [look_none] at ht ⊢
    exact fun x hx => ht x (h.mem_iff.1 hx)
  | some p =>
    obtain ⟨b, sy⟩ := p
    rw [look_iff hk] at ht
    rw [look_iff (keyd_perm h hk)]
    exact h.mem_iff.2 ht
theorem usedP {S T : List Fl} (h : S.Perm T) : used S = used T := by
  unfold used
  exact (h.map _).sum_nat
theorem insF_rising {T : List Fl} {x : Fl} (h : T.Pairwise fun a b => a.1 < b.1) (hn : ∀ y ∈ T, y.1 ≠ x.1) : (insF x T).Pairwise fun a b => a.1 < b.1 := by
  induction T with
  | nil => exact List.pairwise_singleton _ _
  | cons f r ih =>
    rw [List.pairwise_cons] at h
    unfold insF
    by_cases hx : x.1 < f.1
    · rw [if_pos hx, List.pairwise_cons, List.pairwise_cons]
      refine ⟨fun y hy => ?_, h⟩
      rcases List.mem_cons.1 hy with rfl | hy
      · exact hx
      · exact List.lt_trans hx (h.1 y hy)
    · rw [if_neg hx, List.pairwise_cons]
      refine ⟨fun y hy => ?_, ih h.2 fun y hy => hn y (by simp [hy])⟩
      rcases List.mem_cons.1 ((insF_perm x r).mem_iff.1 hy) with rfl | hy
      · by_cases h2 : f.1 < y.1
        · exact h2
        · exact absurd (List.le_antisymm (show f.1 ≤ y.1 from hx) (show y.1 ≤ f.1 from h2)) (hn f (by simp))
      · exact h.1 y hy
theorem map_rising {T : List Fl} (g : Fl → Fl) (hg : ∀ x, (g x).1 = x.1) (h : T.Pairwise fun a b => a.1 < b.1) : (T.map g).Pairwise fun a b => a.1 < b.1 := by
  rw [List.pairwise_map]
  exact h.imp fun {a b} h => by rw [hg, hg]; exact h
theorem setF_rising {T : List Fl} (k b : List UInt8) (sy : Nat) (h : T.Pairwise fun a b => a.1 < b.1) : (setF T k b sy).Pairwise fun a b => a.1 < b.1 := by
  refine map_rising _ (fun x => ?_) h
  split
  · rename_i hx
    exact (beq_iff_eq.1 hx).symm
  · rfl
theorem addT_rising {T : List Fl} (k b : List UInt8) (h : T.Pairwise fun a b => a.1 < b.1) : (addT T k b).Pairwise fun a b => a.1 < b.1 := by
  unfold addT
  cases hx : look T k with
  | none => exact insF_rising h (look_none.1 hx)
  | some p =>
    obtain ⟨b0, sy⟩ := p
    simp only []
    rw [addF_setF hx]
    exact setF_rising _ _ _ h
theorem addT_perm {S T : List Fl} (h : S.Perm T) (hk : Keyd T) (k b : List UInt8) : (addF S k b).Perm (addT T k b) := by
  unfold addT
  have hl := look_perm h hk k
  cases hx : look T k with
  | none =>
    rw [hx] at hl
    have e : addF S k b = S ++ [(k, b, 0)] := by unfold addF; rw [hl]
    rw [e]
    exact (List.perm_append_comm.trans ((List.Perm.cons _ h))).trans (insF_perm _ _).symm
  | some p =>
    obtain ⟨b0, sy⟩ := p
    rw [hx] at hl
    simp only []
    rw [addF_setF hl, addF_setF hx]
    exact h.map _
theorem delF_rising {T : List Fl} (k : List UInt8) (h : T.Pairwise fun a b => a.1 < b.1) : (delF T k).Pairwise fun a b => a.1 < b.1 := h.filter _
theorem delF_none {T : List Fl} (k : List UInt8) : ∀ y ∈ delF T k, y.1 ≠ k := by
  intro y hy e
  unfold delF at hy
  have := (List.mem_filter.1 hy).2
  rw [e] at this
  simp at this
/-- the two disks have the same -/
structure Same (d : Ds) (T : List Fl) : Prop where
  perm : d.S.Perm T
  ok : TOk T
section
variable {d : Ds} {T : List Fl}
theorem Same.look (h : Same d T) (s : List UInt8) : look d.S s = look T s := look_perm h.perm h.ok.keys s
theorem dApp_same (h : Same d T) (s b : List UInt8) : (dApp d s b).1 = (dApp ⟨T, 0, d.room, d.short, d.fuse⟩ s b).1 ∧ (dApp d s b).2.1 = (dApp ⟨T, 0, d.room, d.short, d.fuse⟩ s b).2.1 ∧
    (dApp d s b).2.2.short = (dApp ⟨T, 0, d.room, d.short, d.fuse⟩ s b).2.2.short ∧ (dApp d s b).2.2.fuse = (dApp ⟨T, 0, d.room, d.short, d.fuse⟩ s b).2.2.fuse ∧ (dApp d s b).2.2.room = d.room ∧ (dApp d s b).2.2.n ≤ d.n + 1 ∧
    (dApp d s b).2.2.S.Perm (appT T d.room d.short d.fuse s b) := by
  have hl : lenF d.S s = lenF T s := by unfold lenF; rw [h.look]
  have hu := usedP h.perm
  unfold dApp appT
  by_cases h1 : chErr (nameOk s) d.fuse = 0
  · have hn : ¬ (chErr (nameOk s) d.fuse ≠ 0) := fun h => h h1
    simp only [if_neg hn, hl, hu]
    by_cases h2 : 1048576 < lenF T s + appLen d.short b.length ∨ d.room < used T + appLen d.short b.length
    · simp only [if_pos h2]
      refine ⟨?_, ?_, ?_, ?_, ?_, ?_, ?_⟩ <;> first | rfl | trivial | exact Nat.le_refl _ | exact h.perm
    · simp only [if_neg h2]
      refine ⟨?_, ?_, ?_, ?_, ?_, ?_, ?_⟩ <;> first | rfl | trivial | exact Nat.le_refl _ | exact addT_perm h.perm h.ok.keys _ _
  · simp only [if_pos (show chErr (nameOk s) d.fuse ≠ 0 from h1)]
    refine ⟨?_, ?_, ?_, ?_, ?_, ?_, ?_⟩ <;> first | rfl | trivial | exact Nat.le_succ _ | exact h.perm
theorem appT_rising {room short fuse : Int} (h : T.Pairwise fun a b => a.1 < b.1) (s b : List UInt8) : (appT T room short fuse s b).Pairwise fun a b => a.1 < b.1 := by
  unfold appT
  split
  · exact h
  · split
    · exact h
    · exact addT_rising _ _ h
theorem dSync_same (h : Same d T) (s : List UInt8) : (dSync d s).1 = rSyncE T s d.fuse ∧ (dSync d s).2.S.Perm (syncT T s d.fuse) ∧ (dSync d s).2.room = d.room ∧ (dSync d s).2.short = d.short ∧ (dSync d s).2.fuse = chFuse true d.fuse ∧ (dSync d s).2.n = d.n := by
  unfold dSync rSyncE syncT
  by_cases h0 : d.fuse = 0
  · rw [if_pos h0, if_pos h0, if_pos h0]
    refine ⟨?_, ?_, ?_, ?_, ?_, ?_⟩ <;> first | rfl | trivial | exact h.perm | (rw [h0]; rfl)
  · rw [if_neg h0, if_neg h0, if_neg h0, h.look]
    cases hx : look T s with
    | none => refine ⟨?_, ?_, ?_, ?_, ?_, ?_⟩ <;> first | rfl | trivial | exact h.perm
    | some p => refine ⟨?_, ?_, ?_, ?_, ?_, ?_⟩ <;> first | rfl | trivial | exact h.perm.map _
theorem syncT_rising {fuse : Int} (h : T.Pairwise fun a b => a.1 < b.1) (s : List UInt8) : (syncT T s fuse).Pairwise fun a b => a.1 < b.1 := by
  unfold syncT
  split
  · exact h
  · cases look T s with
    | none => exact h
    | some p => exact setF_rising _ _ _ h
theorem dDel_same (h : Same d T) (s : List UInt8) : (dDel d s).1 = rDelE T s d.fuse ∧ (dDel d s).2.S.Perm (delT T s d.fuse) ∧ (dDel d s).2.room = d.room ∧ (dDel d s).2.short = d.short ∧ (dDel d s).2.fuse = chFuse true d.fuse ∧ (dDel d s).2.n = d.n := by
  unfold dDel rDelE delT
  by_cases h0 : d.fuse = 0
  · rw [if_pos h0, if_pos h0, if_pos h0]
    refine ⟨?_, ?_, ?_, ?_, ?_, ?_⟩ <;> first | rfl | trivial | exact h.perm | (rw [h0]; rfl)
  · rw [if_neg h0, if_neg h0, if_neg h0, h.look]
    cases hx : look T s with
    | none => refine ⟨?_, ?_, ?_, ?_, ?_, ?_⟩ <;> first | rfl | trivial | exact h.perm
    | some p => refine ⟨?_, ?_, ?_, ?_, ?_, ?_⟩ <;> first | rfl | trivial | exact h.perm.filter _
theorem delT_rising {fuse : Int} (h : T.Pairwise fun a b => a.1 < b.1) (s : List UInt8) : (delT T s fuse).Pairwise fun a b => a.1 < b.1 := by
  unfold delT
  split
  · exact h
  · split
    · exact delF_rising _ h
    · exact h
theorem dRen_same (h : Same d T) (a z : List UInt8) : (dRen d a z).1 = rRenE T a z d.fuse ∧ (dRen d a z).2.S.Perm (renT T a z d.fuse) ∧ (dRen d a z).2.room = d.room ∧ (dRen d a z).2.short = d.short ∧ (dRen d a z).2.fuse = chFuse (nameOk z) d.fuse ∧ (dRen d a z).2.n ≤ d.n + 1 := by
  unfold dRen rRenE renT
  by_cases h1 : chErr (nameOk z) d.fuse = 0
  · obtain ⟨hok, _⟩ := chErr_ok h1
    have hn : ¬ (chErr (nameOk z) d.fuse ≠ 0) := fun h => h h1
    simp only [if_neg hn]
    rw [h.look, hok]
    cases hx : look T a with
    | none => refine ⟨?_, ?_, ?_, ?_, ?_, ?_⟩ <;> first | rfl | trivial | exact h.perm | exact Nat.le_succ _
    | some p =>
      obtain ⟨b, sy⟩ := p
      refine ⟨rfl, ?_, rfl, rfl, rfl, Nat.le_refl _⟩
      exact (List.perm_append_comm.trans (((h.perm.filter _).filter _).cons _)).trans (insF_perm _ _).symm
  · simp only [if_pos (show _ ≠ (0 : Int) from h1)]
    refine ⟨?_, ?_, ?_, ?_, ?_, ?_⟩ <;> first | rfl | trivial | exact h.perm | exact Nat.le_succ _
theorem renT_rising {fuse : Int} (h : T.Pairwise fun a b => a.1 < b.1) (a z : List UInt8) : (renT T a z fuse).Pairwise fun a b => a.1 < b.1 := by
  unfold renT
  split
  · exact h
  · cases look T a with
    | none => exact h
    | some p => exact insF_rising (delF_rising _ (delF_rising _ h)) (delF_none z)
theorem dCut_same (h : Same d T) (s : List UInt8) (k : Int) : (dCut d s k).1 = rCutE T s k d.fuse ∧ (dCut d s k).2.S.Perm (cutT T s k d.fuse) ∧ (dCut d s k).2.room = d.room ∧ (dCut d s k).2.short = d.short ∧ (dCut d s k).2.fuse = chFuse (cutOkF T s k) d.fuse ∧ (dCut d s k).2.n = d.n := by
  have hc : cutOk d s k = cutOkF T s k := by
    unfold cutOk cutOkF
    rw [h.look]
    cases look T s with
    | none => rfl
    | some p => rfl
  unfold dCut rCutE cutT
  rw [hc]
  by_cases h1 : chErr (cutOkF T s k) d.fuse = 0
  · obtain ⟨hok, _⟩ := chErr_ok h1
    have hn : ¬ (chErr (cutOkF T s k) d.fuse ≠ 0) := fun h => h h1
    simp only [if_neg hn]
    rw [h.look, hok]
    cases hx : look T s with
    | none => refine ⟨?_, ?_, ?_, ?_, ?_, ?_⟩ <;> first | rfl | trivial | exact h.perm
    | some p =>
      obtain ⟨b, sy⟩ := p
      refine ⟨?_, ?_, ?_, ?_, ?_, ?_⟩ <;> first | rfl | trivial | exact h.perm.map _
  · simp only [if_pos (show _ ≠ (0 : Int) from h1)]
    refine ⟨?_, ?_, ?_, ?_, ?_, ?_⟩ <;> first | rfl | trivial | exact h.perm
theorem cutT_rising {fuse : Int} (h : T.Pairwise fun a b => a.1 < b.1) (s : List UInt8) (k : Int) : (cutT T s k fuse).Pairwise fun a b => a.1 < b.1 := by
  unfold cutT
  split
  · exact h
  · cases look T s with
    | none => exact h
    | some p => exact setF_rising _ _ _ h
theorem crashF_rising (f : List UInt8 → Tl) (h : T.Pairwise fun a b => a.1 < b.1) : (crashF f T).Pairwise fun a b => a.1 < b.1 := map_rising _ (fun x => rfl) h
end
theorem insF_len (x : Fl) (T : List Fl) : (insF x T).length = T.length + 1 := by rw [(insF_perm x T).length_eq]; rfl
end Go.Proofs.Ytjmaimpfplojpaa
