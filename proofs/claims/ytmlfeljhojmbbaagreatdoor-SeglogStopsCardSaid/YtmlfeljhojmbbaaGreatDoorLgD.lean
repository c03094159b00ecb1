/- The log's plain law: what Open leaves of a disk. Walks: Open of an empty disk, and of a disk that has a log (printed by wip/genlg11.py). The log's plain law: a log and its records, call by call. -/
import Derived.Test.YtmlfeljhojmbbaaGreatDoorLgC
namespace Go.Proofs.YtmlfeljhojmbbaaGreatDoor
open Go.RowKit Go.Maps Go.Sort
set_option linter.unusedSimpArgs false
set_option linter.unusedVariables false
set_option maxRecDepth 100000

theorem Calm.ofDel {d d' : Ds} {N U : Nat} (h : Calm d N U) (v : Liv d' N U) (f : d.fuse = -1 → d'.fuse = -1) {s : List UInt8} (e : d'.S = delF d.S s) : Calm d' N U :=
  ⟨v, f h.f, by unfold Key7; rw [e]; exact keys_delF h.key s⟩
theorem del_calm {d : Ds} {N U : Nat} (h : Calm d N U) {s : List UInt8} (hs : look d.S s ≠ none) : (dDel d s).1 = 0 ∧ Calm (dDel d s).2 N U ∧ (∀ t, look (dDel d s).2.S t = if t = s then none else look d.S t) ∧ (dDel d s).2.n = d.n := by
  cases hl : look d.S s with
  | none => exact absurd hl hs
  | some p =>
    rcases del_cases h.liv hl with ⟨_, h0⟩ | ⟨d', e, v, _, f, S', n'⟩
    · have := h.f
      omega
    · rw [e]
      exact ⟨rfl, h.ofDel v f S', fun t => by rw [S', look_delF], n'⟩
/-- manifest.new goes -/
def dFre (d : Ds) : Ds := if (look d.S freshN).isSome = true then (dDel d freshN).2 else d
theorem fre_calm {d : Ds} {N U : Nat} (h : Calm d N U) : Calm (dFre d) N U ∧ (∀ t, look (dFre d).S t = if t = freshN then none else look d.S t) ∧ (dFre d).n = d.n := by
  unfold dFre
  cases hl : look d.S freshN with
  | none =>
    refine ⟨by simpa using h, fun t => ?_, by simp⟩
    simp only [Option.isSome_none, Bool.false_eq_true, if_false]
    by_cases ht : t = freshN
    · rw [if_pos ht, ht, hl]
    · rw [if_neg ht]
  | some p =>
    simp only [Option.isSome_some, if_true]
    obtain ⟨_, h1, h2, h3⟩ := del_calm h (s := freshN) (by rw [hl]; simp)
    exact ⟨h1, h2, h3⟩
/-- what is not the log's goes -/
def dRmv (mine : List (List UInt8)) (d : Ds) (s : List UInt8) : Ds := if s ∈ mine then d else (dDel d s).2
def dRmvs (mine : List (List UInt8)) (d : Ds) (ns : List (List UInt8)) : Ds := ns.foldl (dRmv mine) d
theorem rmvs_calm (mine : List (List UInt8)) (ns : List (List UInt8)) : ∀ {d : Ds} {N U : Nat}, Calm d N U → (∀ s ∈ ns, look d.S s ≠ none) → ns.Pairwise (· ≠ ·) →
    Calm (dRmvs mine d ns) N U ∧ (∀ t, look (dRmvs mine d ns).S t = if t ∈ ns ∧ t ∉ mine then none else look d.S t) ∧ (dRmvs mine d ns).n = d.n := by
  induction ns with
  | nil => exact fun h _ _ => ⟨h, fun t => by simp [dRmvs], rfl⟩
  | cons s r ih =>
    intro d N U h hs hp
    rw [List.pairwise_cons] at hp
    by_cases hm : s ∈ mine
    · have e : dRmvs mine d (s :: r) = dRmvs mine d r := by
        show dRmvs mine (dRmv mine d s) r = _
        rw [dRmv, if_pos hm]
      obtain ⟨g1, g2, g3⟩ := ih h (fun t ht => hs t (List.mem_cons_of_mem _ ht)) hp.2
      rw [e]
      refine ⟨g1, fun t => ?_, g3⟩
      rw [g2]
      by_cases ht : t = s
      · rw [if_neg (by rw [ht]; simp [hm]), if_neg (by rw [ht]; simp [hm])]
      · simp [ht]
    · have e : dRmvs mine d (s :: r) = dRmvs mine (dDel d s).2 r := by
        show dRmvs mine (dRmv mine d s) r = _
        rw [dRmv, if_neg hm]
      obtain ⟨_, h1, h2, h3⟩ := del_calm h (hs s List.mem_cons_self)
      obtain ⟨g1, g2, g3⟩ := ih h1 (fun t ht => by
        rw [h2, if_neg (fun e => hp.1 t ht e.symm)]
        exact hs t (List.mem_cons_of_mem _ ht)) hp.2
      rw [e]
      refine ⟨g1, fun t => ?_, g3.trans h3⟩
      rw [g2, h2]
      by_cases ht : t = s
      · subst ht
        rw [if_pos rfl, if_pos (⟨List.mem_cons_self, hm⟩ : t ∈ t :: r ∧ t ∉ mine)]
        split <;> rfl
      · rw [if_neg ht]
        simp [ht]
theorem seg_ne_fresh (n : Nat) : seg n ≠ freshN := by
  intro h
  have := congrArg (fun l => l.getD 0 0) h
  simp [seg, freshN] at this
theorem seg_ne_man (n : Nat) : seg n ≠ manN := by
  intro h
  have := congrArg (fun l => l.getD 0 0) h
  simp [seg, manN] at this
/-- the log's files -/
def mineL (l : List Nat) : List (List UInt8) := l.map seg ++ [manN]
/-- the disk behind Open -/
def dOpn (d : Ds) (l : List Nat) (hl : l ≠ []) : Ds := dSyncs (dScut (dRmvs (mineL l) (dFre d) (lsD (dFre d))) (l.getLast hl)) (l.map seg)
structure OpnD (d d' : Ds) (l : List Nat) (hl : l ≠ []) : Prop where
  man : look d'.S manN = look d.S manN
  closed : ∀ n ∈ l, n ≠ l.getLast hl → look d'.S (seg n) = (look d.S (seg n)).map fun p => (p.1, p.1.length)
  last : look d'.S (seg (l.getLast hl)) = (look d.S (seg (l.getLast hl))).map fun p => (frs (rdL p.1), (frs (rdL p.1)).length)
  none : ∀ s, s ∉ mineL l → look d'.S s = .none
theorem whole_take {b : List UInt8} (h : (frs (rdL b)).length = b.length) : b = frs (rdL b) := by
  have h1 := rdL_take b
  rw [h, List.take_of_length_le (Nat.le_refl _)] at h1
  exact h1
theorem opn_looks {d : Ds} {N U : Nat} (h : Calm d N U) (l : List Nat) (hl : l ≠ []) :
    Calm (dRmvs (mineL l) (dFre d) (lsD (dFre d))) N U ∧ (∀ n ∈ l, cont (dRmvs (mineL l) (dFre d) (lsD (dFre d))) n = cont d n) ∧ OpnD d (dOpn d l hl) l hl := by
  obtain ⟨h1, l1, n1⟩ := fre_calm h
  obtain ⟨h2, l2, n2⟩ := rmvs_calm (mineL l) (lsD (dFre d)) h1 (fun s hs => lsD_mem.1 hs) ((lsD_rising h1.key).imp fun hlt e => by subst e; exact List.lt_irrefl _ hlt)
  have hin : ∀ t ∈ mineL l, look (dRmvs (mineL l) (dFre d) (lsD (dFre d))).S t = look d.S t := fun t ht => by
    rw [l2, if_neg (by simp [ht]), l1, if_neg]
    intro e
    rcases List.mem_append.1 ht with h | h
    · obtain ⟨n, _, rfl⟩ := List.mem_map.1 h
      exact seg_ne_fresh n e
    · rw [List.mem_singleton] at h
      rw [h] at e
      exact man_ne e
  have hout : ∀ t, t ∉ mineL l → look (dRmvs (mineL l) (dFre d) (lsD (dFre d))).S t = none := fun t ht => by
    rw [l2]
    split
    · rfl
    · rename_i hn
      cases hlk : look (dFre d).S t with
      | none => rfl
      | some p => exact absurd ⟨lsD_mem.2 (by rw [hlk]; simp), ht⟩ hn
  have hseg : ∀ n ∈ l, seg n ∈ mineL l := fun n hn => List.mem_append_left _ (List.mem_map_of_mem hn)
  have hman : manN ∈ mineL l := List.mem_append_right _ (by simp)
  generalize hd3 : dRmvs (mineL l) (dFre d) (lsD (dFre d)) = d3 at *
  have hc : ∀ n ∈ l, cont d3 n = cont d n := fun n hn => by rw [cont, hin _ (hseg n hn), cont]
  refine ⟨h2, hc, ?_⟩
  -- the cut
  have hlast := List.getLast_mem hl
  generalize hm : l.getLast hl = m at *
  have hcut : Calm (dScut d3 m) N U ∧ (∀ t, t ≠ seg m → look (dScut d3 m).S t = look d3.S t) ∧ (look (dScut d3 m).S (seg m)).map (fun p => (p.1, p.1.length)) = (look d.S (seg m)).map fun p => (frs (rdL p.1), (frs (rdL p.1)).length) := by
    unfold dScut
    by_cases hw : wl d3 m = (cont d3 m).length
    · rw [if_pos hw]
      refine ⟨h2, fun t _ => rfl, ?_⟩
      rw [hin _ (hseg m hlast)]
      unfold wl at hw
      rw [hc m hlast] at hw
      cases hlk : look d.S (seg m) with
      | none => rfl
      | some p =>
        obtain ⟨b, sy⟩ := p
        have e : cont d m = b := by rw [cont, hlk]; rfl
        rw [e] at hw
        have := whole_take hw
        simp only [Option.map_some]
        rw [← this]
    · rw [if_neg hw]
      unfold wl at hw ⊢
      rw [hc m hlast] at hw ⊢
      cases hlk : look d.S (seg m) with
      | none =>
        exfalso
        apply hw
        rw [cont, hlk]
        rfl
      | some p =>
        obtain ⟨b, sy⟩ := p
        have e : cont d m = b := by rw [cont, hlk]; rfl
        rw [e] at hw ⊢
        rcases cut_cases h2.liv h2.key ((hin _ (hseg m hlast)).trans hlk) (rdL_len b) with ⟨_, h0⟩ | ⟨d', e', v, _, f, S', n'⟩
        · have := h2.f
          omega
        · rw [e']
          refine ⟨⟨v, f h2.f, by unfold Key7; rw [S']; exact keys_setF h2.key _ _ _⟩, fun t ht => by rw [S', look_setF, if_neg ht], ?_⟩
          rw [S', look_setF, if_pos rfl, hin _ (hseg m hlast), hlk]
          simp only [Option.map_some]
          rw [rdL_take]
  obtain ⟨h4, l4, l5⟩ := hcut
  obtain ⟨h6, l6, n6⟩ := syncs_calm (l.map seg) h4
  have hmem : ∀ n ∈ l, seg n ∈ l.map seg := fun n hn => List.mem_map_of_mem hn
  have hdo : dOpn d l hl = dSyncs (dScut d3 m) (l.map seg) := by unfold dOpn; rw [hd3, hm]
  have hnm : manN ∉ l.map seg := fun hx => by
    obtain ⟨n, _, e⟩ := List.mem_map.1 hx
    exact seg_ne_man n e
  refine ⟨?_, ?_, ?_, ?_⟩
  · rw [hdo, l6, if_neg hnm, l4 _ (fun e => seg_ne_man m e.symm), hin _ hman]
  · intro n hn hne
    rw [hm] at hne
    rw [hdo, l6, if_pos (hmem n hn), l4 _ (fun e => hne (seg_inj e)), hin _ (hseg n hn)]
  · rw [hm, hdo, l6, if_pos (hmem m hlast), l5]
  · intro s hs
    have hs1 : s ∉ l.map seg := fun hx => hs (List.mem_append_left _ hx)
    rw [hdo, l6, if_neg hs1, l4 _ (fun e => hs1 (by rw [e]; exact hmem m hlast)), hout _ hs]
end Go.Proofs.YtmlfeljhojmbbaaGreatDoor

namespace Go.Proofs.YtmlfeljhojmbbaaGreatDoor
open Go.RowKit Go.Maps Go.Sort
set_option linter.unusedSimpArgs false
set_option linter.unusedVariables false
set_option maxRecDepth 100000

theorem dd_trim {w : World} {gd : Nat} {F : List Nat} {d : Ds} (h : DD w gd F d) : ∃ F0, DD w gd F0 d ∧ (∀ x ∈ F0, x ∈ F) ∧ ∀ x ∈ F0, x < w.heap.size := by
  obtain ⟨gm, es, hD, hS, hF⟩ := h
  exact ⟨foot gd gm es, ⟨gm, es, hD, hS, fun x hx => hx⟩, hF, fun x hx => hD.lt hx⟩
theorem rmvs_step {mine : List (List UInt8)} {d : Ds} {N U : Nat} (h : Calm d N U) {k : Nat} (hk : k < (lsD d).length) :
    Calm (dRmvs mine d ((lsD d).take k)) N U ∧ look (dRmvs mine d ((lsD d).take k)).S (lsD d)[k] ≠ none ∧ dRmvs mine d ((lsD d).take (k + 1)) = dRmv mine (dRmvs mine d ((lsD d).take k)) (lsD d)[k] := by
  have hp : (lsD d).Pairwise (· ≠ ·) := (lsD_rising h.key).imp fun hlt e => by subst e; exact List.lt_irrefl _ hlt
  obtain ⟨h1, h2, _⟩ := rmvs_calm mine ((lsD d).take k) h (fun s hs => lsD_mem.1 (List.mem_of_mem_take hs)) (hp.sublist (List.take_sublist _ _))
  refine ⟨h1, ?_, ?_⟩
  · rw [h2, if_neg]
    · exact lsD_mem.1 (List.getElem_mem hk)
    · rintro ⟨hx, _⟩
      obtain ⟨j, hj, e⟩ := List.mem_iff_getElem.1 hx
      rw [List.getElem_take] at e
      have hj2 : j < k := by rw [List.length_take] at hj; omega
      exact List.pairwise_iff_getElem.1 hp j k (by omega) hk hj2 e
  · rw [List.take_succ_eq_append_getElem hk, dRmvs, List.foldl_append]
    rfl
/-- a log of no segments is boxed beside the disk -/
theorem ld_box {w : World} {gd Z : Nat} {F : List Nat} {d : Ds} (h : DD w gd F d) (hF : ∀ x ∈ F, Z ≤ x ∧ x < w.heap.size) (hz : Z ≤ w.heap.size) (ht : Tb w Z) :
    LD (w.alloc (.cells #[gp gd, .slice none 0 0, .bool false] 77)) w.heap.size gd Z (w.heap.size :: F) d [] false := by
  have hb : Below w.heap.size w (w.alloc (.cells #[gp gd, .slice none 0 0, .bool false] 77)) := (Below.refl _ w).alloc (Nat.le_refl _) _
  refine ⟨⟨F, none, 0, Dsk.below h hb, ⟨Blk.new w _ _, fun hne => absurd rfl hne, ⟨Nat.le_refl _, fun a ha => by cases ha⟩⟩, fun x hx => ⟨List.mem_cons_of_mem _ hx, fun e => ?_⟩, fun a ha => by cases ha⟩, List.mem_cons_self, fun x hx => ?_, Nat.le_trans hz hb.size, ht.below (hb.mono hz)⟩
  · have := (hF x hx).2
    omega
  · rcases List.mem_cons.1 hx with h | h
    · omega
    · exact (hF x h).1
section
variable {w w' : World} {gd Z : Nat} {F : List Nat} {d : Ds}
theorem dd_read_man (h : DD w gd F d) : Calls Tryz.prog 40 #[gp gd, .string ⟨#[109, 97, 110, 105, 102, 101, 115, 116]⟩] w fun e w' =>
    ∃ A c, ∃ E : Int, e = .returned (.tuple #[.slice A (((look d.S manN).map (·.1)).getD []).length c, .int .i64 E]) ∧ Shut (E = if (look d.S manN).isSome = true then 0 else 60) ∧ Own w' 5 1 (.slice A (((look d.S manN).map (·.1)).getD []).length c) (((look d.S manN).map (·.1)).getD []).length (bys (((look d.S manN).map (·.1)).getD [])) ∧ Below w.heap.size w w' := by
  refine (dd_read h ⟨#[109, 97, 110, 105, 102, 101, 115, 116]⟩ (by unfold reach; decide)).mono ?_
  rintro e w' ⟨A, c, he, ho, hb, _⟩
  exact ⟨A, c, _, he, ⟨rfl⟩, ho, hb⟩
set_option maxHeartbeats 2000000 in
theorem open_new (h : DD w gd F d) (hF : ∀ x ∈ F, Z ≤ x) (hz : Z ≤ w.heap.size) (ht : Tb w Z) {NN UU : Nat} (hN9 : NN ≤ 700000000) (hc : Calm d NN UU) (hU : UU + 48 ≤ 1048576) (hno : ∀ s, look d.S s = none) :
    Calls Tryz.prog 9 #[gp gd] w fun e w' => ∃ gl H' d', e = .returned (.tuple #[gp gl, .slice none 0 0, .int .i64 0]) ∧ LD w' gl gd Z H' d' [1] false ∧ Kb w w' F ∧ (∀ x ∈ H', x ∈ F ∨ w.heap.size ≤ x) ∧ w.heap.size ≤ gl ∧ Calm d' (NN + 2) (UU + 48) ∧
      ∀ s, look d'.S s = if s = manN then some (frm (manB [1]), 48) else none := by
  obtain ⟨F0, hD0, hsub, hlt0⟩ := dd_trim h
  have hl0 : lsD d = [] := List.eq_nil_iff_forall_not_mem.2 fun s hs => lsD_mem.1 hs (hno s)
  have HD := Shut.mk hD0
  have HF0 := Shut.mk (fun x (hx : x ∈ F0) => (⟨hF x (hsub x hx), hlt0 x hx⟩ : Z ≤ x ∧ x < w.heap.size))
  have HSUB := Shut.mk hsub
  have HT := Shut.mk ht
  have HC := Shut.mk hc
  have HNO := Shut.mk hno
  have HL0 := Shut.mk hl0
  have HRM := Shut.mk (dd_read_man hD0)
  rw [hno manN] at HRM
  clear h hD0 hF hsub hlt0 ht hc hno hl0
  go_enter Tryz.func9, Tryz.ntmps9
  go_wp2_with fail
  refine HRM.out.mono ?_
  rintro e w1 ⟨A1, c1, E1, rfl, hE1, ho1, hb1⟩
  obtain rfl : E1 = 60 := hE1.out
  have HB1 := Shut.mk hb1
  have hs1 := hb1.size
  have HL2 := Shut.mk (ld_box (Dsk.below HD.out hb1) (fun x hx => ⟨(HF0.out x hx).1, Nat.lt_of_lt_of_le (HF0.out x hx).2 hs1⟩) (Nat.le_trans hz hs1) (HT.out.below (hb1.mono hz)))
  clear hb1 ho1
  obtain ⟨GL, hGL⟩ : ∃ GL, GL = w1.heap.size := ⟨_, rfl⟩
  obtain ⟨W2, hW2⟩ : ∃ W2, w1.alloc (.cells #[gp gd, .slice none 0 0, .bool false] 77) = W2 := ⟨_, rfl⟩
  have HW2 := Shut.mk hW2
  have HGL := Shut.mk hGL
  rw [hW2, ← hGL] at HL2
  have HHAS := Shut.mk (has_calls HL2.out (by have := HC.out.liv.n; omega) ⟨#[109, 97, 110, 105, 102, 101, 115, 116, 46, 110, 101, 119]⟩)
  rw [show look d.S (ByteArray.mk #[109, 97, 110, 105, 102, 101, 115, 116, 46, 110, 101, 119]).data.toList = none from HNO.out _] at HHAS
  go_wp2_with fail
  rw [← hGL]
  clear hW2 hGL
  refine HHAS.out.mono ?_
  rintro e w3 ⟨rfl, hb3⟩
  have HL3 := Shut.mk (HL2.out.quiet hb3)
  have HB3 := Shut.mk hb3
  have hs3 := hb3.size
  clear hb3
  obtain ⟨F3, hD3, _⟩ := HL3.out.disk
  have HRM3 := Shut.mk (dd_read_man hD3)
  rw [HNO.out manN] at HRM3
  clear hD3
  go_wp2_with fail
  refine HRM3.out.mono ?_
  rintro e w4 ⟨A4, c4, E4, rfl, hE4, ho4, hb4⟩
  obtain rfl : E4 = 60 := hE4.out
  have HL4 := Shut.mk (HL3.out.quiet hb4)
  have HB4 := Shut.mk hb4
  have hs4 := hb4.size
  clear hb4 ho4
  obtain ⟨F4, hD4, _⟩ := HL4.out.disk
  have HLS := Shut.mk (dd_ls hD4 (by have := HC.out.liv.n; omega))
  rw [HL0.out] at HLS
  clear hD4
  go_wp2_with fail
  refine HLS.out.mono ?_
  rintro e w5 ⟨v5, rfl, ho5, hb5, hn5⟩
  obtain ⟨A5, c5, rfl, _⟩ := ho5.form
  have hb6 : Below w5.heap.size w5 (w5.alloc (.cells #[.int .i64 1] 3)) := (Below.refl _ w5).alloc (Nat.le_refl _) _
  have HL6 := Shut.mk ((HL4.out.quiet hb5).quiet hb6)
  have HB5 := Shut.mk hb5
  have HB6 := Shut.mk hb6
  have hs5 := hb5.size
  clear ho5 hb5 hn5 hb6
  obtain ⟨H7, hL7, hsub7, hlt7⟩ := ((HL4.out.quiet HB5.out)).trim
  have HL7 := Shut.mk (hL7.quiet HB6.out)
  have hz7 := HL7.out.zs
  have HSUB7 := Shut.mk hsub7
  have HMAN := Shut.mk (man_calls HL7.out (HC.out.liv.okN 2 (by omega)) (some ⟨w5.heap.size, 0, none⟩) 1 [1] (show Rd _ _ (its [1]) from rd_new w5 #[.int .i64 1] 3) ⟨Nat.le_refl _, fun a ha => by cases ha; rfl⟩ (fun a ha => by
        cases ha
        refine ⟨fun hx => by have := hlt7 _ hx; simp at this, ?_, by simp⟩
        have := hL7.zs
        exact this) (by decide) (by decide) (by decide))
  have hwr := write_cases HC.out.liv HC.out.key [] false [1] (HNO.out _) (by simpa using hU)
  have hwr2 : ∃ d', lWrite d [] false [1] = (0, d', [1], false) ∧ Calm d' (NN + 2) (UU + 48) ∧ ∀ s, look d'.S s = if s = manN then some (frm (manB [1]), 48) else none := by
    rcases hwr with ⟨d', e, v, _, f, lk⟩ | ⟨d', _, _, h0, _⟩
    · have hlk : ∀ s, look d'.S s = if s = manN then some (frm (manB [1]), 48) else none := fun s => by
        rw [lk s, HNO.out s]
        rfl
      refine ⟨d', e, ⟨v, f HC.out.f, ?_⟩, hlk⟩
      have : d' = (lWrite d [] false [1]).2.1 := by rw [e]
      rw [this]
      unfold lWrite
      split
      · exact wrt3_keys HC.out.key _
      · exact dDel_keys (wrt3_keys HC.out.key _) _
    · exact absurd HC.out.f h0
  obtain ⟨d', hwe, hcalm, hlook⟩ := hwr2
  rw [hwe] at HMAN
  have HCD := Shut.mk hcalm
  have HLK := Shut.mk hlook
  clear hL7 hsub7 hlt7 hwr hwe hcalm hlook
  go_wp2_with fail
  refine HMAN.out.mono ?_
  rintro e w8 ⟨rfl, H8, hL8, hk8, hs8⟩
  have HF := Shut.mk (And.intro hL8 (And.intro hk8 hs8))
  clear hL8 hk8 hs8
  go_wp2_with fail
  go_ret3
  obtain ⟨hL8, hk8, hs8⟩ := HF.out
  have hbox : Below w1.heap.size w1 W2 := by
    rw [← HW2.out]
    exact (Below.refl _ w1).alloc (Nat.le_refl _) _
  have hball : Below w.heap.size w (w5.alloc (.cells #[.int .i64 1] 3)) := HB1.out.trans ((hbox.trans ((HB3.out.trans ((HB4.out.trans ((HB5.out.trans (HB6.out.mono hs5)).mono hs4)).mono hs3)).mono (by have := hbox.size; exact this))).mono hs1)
  have hH7 : ∀ x ∈ H7, x ∈ F ∨ w.heap.size ≤ x := fun x hx => by
    rcases List.mem_cons.1 (HSUB7.out x hx) with h | h
    · right
      rw [h, HGL.out]
      exact hs1
    · exact .inl (HSUB.out x h)
  have hA8 : ∀ x ∈ blkOf (some (⟨w5.heap.size, 0, none⟩ : Addr)) ++ H7, x ∈ F ∨ w.heap.size ≤ x := fun x hx => by
    rcases List.mem_append.1 hx with h | h
    · right
      rw [show x = w5.heap.size by simpa [blkOf] using h]
      have := HB1.out.size
      have := hbox.size
      omega
    · exact hH7 x h
  refine ⟨GL, H8, d', rfl, hL8, (Kb.of_below hball F).trans hk8 hA8, fun x hx => (hs8 x hx).elim (hA8 x) (fun h => .inr (Nat.le_trans hball.size h)), by rw [HGL.out]; exact hs1, HCD.out, HLK.out⟩
set_option maxHeartbeats 4000000 in
theorem open_old (h : DD w gd F d) (hF : ∀ x ∈ F, Z ≤ x) (hz : Z ≤ w.heap.size) (ht : Tb w Z) {NN UU : Nat} (hN9 : NN ≤ 700000000) (hc : Calm d NN UU) (l : List Nat) (hl : l ≠ []) (hman : (look d.S manN).map (·.1) = some (frm (manB l))) (hp : l.Pairwise (· < ·)) (h9 : ∀ n ∈ l, 1 ≤ n ∧ n ≤ 99999999) (hm : l.length ≤ 500) (hwh : ∀ k, (hk : k + 1 < l.length) → whole d l[k]) (hsz : ∀ s, look d.S s ≠ none → s.length ≤ 100) :
    Calls Tryz.prog 9 #[gp gd] w fun e w' => ∃ gl v H', e = .returned (.tuple #[gp gl, v, .int .i64 0]) ∧ Recs w' w.heap.size (fun x => w.heap.size ≤ x ∧ x ∉ H') v (recsL d l) ∧ (∀ g, v.ownBlock = some g → g ∉ H') ∧
      LD w' gl gd Z H' (dOpn d l hl) l false ∧ Kb w w' F ∧ (∀ x ∈ H', x ∈ F ∨ w.heap.size ≤ x) ∧ w.heap.size ≤ gl ∧ Calm (dOpn d l hl) NN UU := by
  obtain ⟨i0, hi, hz0, hz1, hz2⟩ := info_parts info_str7
  have hnil := fun (W : World) (g n c : Nat) => Lib.run_eql_slice_nil (P := Tryz.prog) W 40 3 (some ⟨g, 0, none⟩) n c 0 0 Tryz.underlying40
  obtain ⟨N, hN⟩ : ∃ N, N = l.length := ⟨_, rfl⟩
  have hpos : 1 ≤ N := by rw [hN]; exact List.length_pos_iff.2 hl
  have hbl : (frm (manB l)).length = 40 + 8 * N := by rw [frm_length, manB_length, hN]
  have hms : (look d.S manN).isSome = true := by
    cases hlk : look d.S manN with
    | none => rw [hlk] at hman; cases hman
    | some p => rfl
  have hmb : ((look d.S manN).map (·.1)).getD [] = frm (manB l) := by rw [hman]; rfl
  obtain ⟨F0, hD0, hsub, hlt0⟩ := dd_trim h
  obtain ⟨hcm3, hcont, _⟩ := opn_looks hc l hl
  obtain ⟨hcf, hlf, hnf⟩ := fre_calm hc
  have HD := Shut.mk hD0
  have HF0 := Shut.mk (fun x (hx : x ∈ F0) => (⟨hF x (hsub x hx), hlt0 x hx⟩ : Z ≤ x ∧ x < w.heap.size))
  have HSUB := Shut.mk hsub
  have HT := Shut.mk ht
  have HC := Shut.mk hc
  have HCF := Shut.mk hcf
  have HCM3 := Shut.mk hcm3
  have HCONT := Shut.mk hcont
  have HP := Shut.mk hp
  have H9 := Shut.mk h9
  have HWH := Shut.mk hwh
  have HN := Shut.mk hN
  have HSZ : Shut (∀ s, look (dFre d).S s ≠ none → s.length ≤ 100) := ⟨fun s hs => hsz s (fun e => hs (by rw [hlf, e]; split <;> rfl))⟩
  have HBL := Shut.mk hbl
  have HMB1 : Shut (((look (dFre d).S manN).map (·.1)).getD [] = frm (manB l) ∧ (look (dFre d).S manN).isSome = true) := ⟨by rw [hlf, if_neg man_ne]; exact ⟨hmb, hms⟩⟩
  have HRM := Shut.mk (dd_read_man hD0)
  rw [hmb, hbl, hms] at HRM
  rw [← hN] at hm
  clear h hD0 hF hsub hlt0 ht hc hman hp h9 hwh hsz hms hmb hbl hcm3 hcont hcf hlf hN
  go_enter Tryz.func9, Tryz.ntmps9
  go_wp2_with fail
  refine HRM.out.mono ?_
  rintro e w1 ⟨A1, c1, E1, rfl, hE1, ho1, hb1⟩
  obtain rfl : E1 = 0 := hE1.out
  have HB1 := Shut.mk hb1
  have hs1 := hb1.size
  have HL2 := Shut.mk (ld_box (Dsk.below HD.out hb1) (fun x hx => ⟨(HF0.out x hx).1, Nat.lt_of_lt_of_le (HF0.out x hx).2 hs1⟩) (Nat.le_trans hz hs1) (HT.out.below (hb1.mono hz)))
  clear hb1 ho1
  obtain ⟨GL, hGL⟩ : ∃ GL, GL = w1.heap.size := ⟨_, rfl⟩
  obtain ⟨W2, hW2⟩ : ∃ W2, w1.alloc (.cells #[gp gd, .slice none 0 0, .bool false] 77) = W2 := ⟨_, rfl⟩
  have HB2 : Shut (Below w1.heap.size w1 W2) := ⟨by rw [← hW2]; exact (Below.refl _ w1).alloc (Nat.le_refl _) _⟩
  have HGL := Shut.mk hGL
  rw [hW2, ← hGL] at HL2
  have HHAS := Shut.mk (has_calls HL2.out (by have := HC.out.liv.n; omega) ⟨#[109, 97, 110, 105, 102, 101, 115, 116, 46, 110, 101, 119]⟩)
  rw [show look d.S (ByteArray.mk #[109, 97, 110, 105, 102, 101, 115, 116, 46, 110, 101, 119]).data.toList = look d.S freshN from rfl] at HHAS
  have HHF : Shut (∀ x ∈ GL :: F0, x ∈ F ∨ w.heap.size ≤ x) := ⟨fun x hx => by
    rcases List.mem_cons.1 hx with h | h
    · right
      rw [h, hGL]
      exact hs1
    · exact .inl (HSUB.out x h)⟩
  have hs2 := HB2.out.size
  go_wp2_with fail
  rw [← hGL]
  clear hW2 hGL
  refine HHAS.out.mono ?_
  rintro e w3 ⟨rfl, hb3⟩
  have HL3 := Shut.mk (HL2.out.quiet hb3)
  have HB3 := Shut.mk (HB1.out.trans ((HB2.out.trans (hb3.mono hs2)).mono hs1))
  have hs3 := hb3.size
  clear hb3
  by_cases hfr : (look d.S freshN).isSome = true
  · rw [hfr]
    have hfd : dFre d = (dDel d freshN).2 := if_pos hfr
    have hf0 : (dDel d freshN).1 = 0 := (del_calm HC.out (s := freshN) (fun e => by rw [e] at hfr; cases hfr)).1
    have HRF := Shut.mk (fresh_remove HL3.out (HC.out.liv.okN 0 (by omega)).ok)
    rw [hf0, ← hfd] at HRF
    clear hfd hf0
    go_wp2_with fail
    refine HRF.out.mono ?_
    rintro e w4 ⟨rfl, H4, hL4, hk4, hs4⟩
    have HK4 : Shut (Kb w w4 F) := ⟨(Kb.of_below HB3.out F).trans hk4 HHF.out⟩
    have HH4 : Shut (∀ x ∈ H4, x ∈ F ∨ w.heap.size ≤ x) := ⟨fun x hx => (hs4 x hx).elim (HHF.out x) (fun h => .inr (by have := HB3.out.size; omega))⟩
    have HL4 := Shut.mk hL4
    clear hL4 hk4 hs4
    obtain ⟨F4, hD4, _⟩ := HL4.out.disk
    have HRM4 := Shut.mk (dd_read_man hD4)
    rw [HMB1.out.1, HMB1.out.2, HBL.out] at HRM4
    clear hD4
    go_wp2_with fail
    refine HRM4.out.mono ?_
    rintro e w5 ⟨A5, c5, E5, rfl, hE5, ho5, hb5⟩
    obtain rfl : E5 = 0 := hE5.out
    have HL5 := Shut.mk (HL4.out.quiet hb5)
    have HRB5 := Shut.mk (rdb_own _ ho5)
    have hac5 : 40 + 8 * N ≤ c5 := by
      obtain ⟨A6, c6, e6, _, h6, _⟩ := ho5.form
      cases e6
      exact h6
    have HB5 := Shut.mk hb5
    have HPA := Shut.mk (parse_calls A5 c5 N l w5 HRB5.out HN.out.symm hpos hm hac5 HP.out H9.out HL5.out.tb.k HL5.out.tb.b)
    clear hb5 ho5
    go_wp2_with fail
    refine HPA.out.mono ?_
    rintro e w6 ⟨g6, c6, rfl, ho6, hb6, hg6⟩
    obtain ⟨H6, hL6, hsub6, hlt6⟩ := HL5.out.trim
    have hL6' := hL6.quiet hb6
    have hg6lt := ho6.block_lt (g := g6) rfl
    obtain ⟨A7, c7, k1, k2, k3, k4, k5⟩ := hL6'.log
    have t1 : w6.cell? ⟨GL, 1, none⟩ = some (.slice A7 0 c7) := k1.cell 1
    have fr1 : w6.frozen? ⟨GL, 1, none⟩ = false := k1.free 1
    have hrd6 : Rd w6 (some ⟨g6, 0, none⟩) (its l) := by
      obtain ⟨A8, c8, e8, hr8, _⟩ := ho6.form
      cases e8
      exact hr8
    have hcap6 : N ≤ c6 := by
      obtain ⟨A8, c8, e8, _, h8, _⟩ := ho6.form
      cases e8
      exact h8
    have HL7 := Shut.mk (k5 (some ⟨g6, 0, none⟩) c6 l hrd6 (by rw [← HN.out]; exact ⟨hcap6, fun a ha => by cases ha; rfl⟩) (fun a ha => by
      cases ha
      have hz5 := HL5.out.zs
      exact ⟨fun hx => by have := hlt6 _ hx; simp only at this; omega, by show Z ≤ g6; omega⟩))
    rw [← HN.out] at HL7
    have HKB7 : Shut (Kb w (w6.setCell ⟨GL, 1, none⟩ (.slice (some ⟨g6, 0, none⟩) N c6)) F) := ⟨((HK4.out.below_ HB5.out).below_ hb6).trans ((Kb.refl w6 [GL]).setCell (p := ⟨GL, 1, none⟩) (by simp) _) (fun x hx => by
      rw [show x = GL by simpa using hx, HGL.out]
      exact .inr hs1)⟩
    have hs46 : w.heap.size ≤ w6.heap.size := Nat.le_trans HK4.out.size (Nat.le_trans HB5.out.size hb6.size)
    have HH7 : Shut (∀ x ∈ blkOf (some (⟨g6, 0, none⟩ : Addr)) ++ H6, x ∈ F ∨ w.heap.size ≤ x) := ⟨fun x hx => by
      rcases List.mem_append.1 hx with h | h
      · right
        rw [show x = g6 by simpa [blkOf] using h]
        have := HK4.out.size
        have := HB5.out.size
        omega
      · exact HH4.out x (hsub6 x h)⟩
    have HLT7 : Shut (∀ x ∈ blkOf (some (⟨g6, 0, none⟩ : Addr)) ++ H6, x < w6.heap.size) := ⟨fun x hx => by
      rcases List.mem_append.1 hx with h | h
      · rw [show x = g6 by simpa [blkOf] using h]
        exact hg6lt
      · exact Nat.lt_of_lt_of_le (hlt6 x h) hb6.size⟩
    have hsW7 : (w6.setCell ⟨GL, 1, none⟩ (.slice (some ⟨g6, 0, none⟩) N c6)).heap.size = w6.heap.size := by simp
    rw [← hsW7] at HLT7
    have hc7 : (w6.setCell ⟨GL, 1, none⟩ (.slice (some ⟨g6, 0, none⟩) N c6)).cell? ⟨GL, 1, none⟩ = some (.slice (some ⟨g6, 0, none⟩) N c6) := (k1.set_ 1 (.slice (some ⟨g6, 0, none⟩) N c6)).cell 1
    obtain ⟨W7, hW7⟩ : ∃ W7, w6.setCell ⟨GL, 1, none⟩ (.slice (some ⟨g6, 0, none⟩) N c6) = W7 := ⟨_, rfl⟩
    rw [hW7] at HL7 HKB7 hc7 HLT7
    clear hsW7
    obtain ⟨H7, hH7⟩ : ∃ H7, H7 = blkOf (some (⟨g6, 0, none⟩ : Addr)) ++ H6 := ⟨_, rfl⟩
    rw [← hH7] at HL7 HH7 HLT7
    clear hH7
    have HSG := Shut.mk (segments_calls HL7.out (fun n hn => (H9.out n hn).2) (by rw [← HN.out]; omega))
    rw [← HN.out] at HSG
    have hs7 : w.heap.size ≤ W7.heap.size := HKB7.out.size
    have HRD6 := Shut.mk hrd6
    clear ho6 hb6 hL6 hsub6 hlt6 hL6' k1 k2 k3 k4 k5 hrd6
    go_wp2_with fail
    refine HSG.out.mono ?_
    rintro e w8 ⟨v8, rfl, ho8, hb8, hn8⟩
    have HL8 := Shut.mk (HL7.out.quiet hb8)
    have HB8 := Shut.mk hb8
    have HO8 := Shut.mk ho8
    have HN8 := Shut.mk hn8
    have hs8 := hb8.size
    clear ho8 hb8 hn8 hW7 t1 fr1 hc7
    go_wp2_with (at_builtin; refine wpList_append _ rfl _ _ _ rfl 9 i0 _ 1 16 Tryz.underlying51 hi hz0 hz1 hz2 rfl (by decide) _ _ _ rfl (HO8.out.alloc _) _ 1 1 _ rfl (by rfl) (rd_new w8 _ 9) (by simp [Value.oneCell']) (by simp only [maxLen]; omega) (by omega) ?_; intro v9 w9 hap9)
    have hmine : (l.map seg).map Proofs.encStr ++ [Value.string ⟨#[109, 97, 110, 105, 102, 101, 115, 116]⟩] = (mineL l).map Proofs.encStr := by
      rw [mineL, List.map_append]
      rfl
    have HO9 := Shut.mk (hap9.own.cast rfl hmine)
    have HMLEN : Shut ((mineL l).length = N + 1) := ⟨by rw [mineL, List.length_append, List.length_map, ← HN.out]; rfl⟩
    have HB9 : Shut (Below W7.heap.size W7 w9) := ⟨(HB8.out.alloc hs8 _).grown hap9.grown (by simp; omega) HN8.out⟩
    have HN9 : Shut (∀ g, v9.ownBlock = some g → W7.heap.size ≤ g) := ⟨new_append (by simp; omega) HN8.out hap9.lies⟩
    have HL9 := Shut.mk (HL7.out.quiet HB9.out)
    obtain ⟨F9, hD9, _⟩ := HL9.out.disk
    have HLS := Shut.mk (dd_ls hD9 (by have := HCF.out.liv.n; omega))
    have hs9 := HB9.out.size
    clear hD9 hap9 hmine
    go_wp2_with fail
    refine HLS.out.mono ?_
    rintro e w10 ⟨v10, rfl, ho10, hb10, hn10⟩
    obtain ⟨A10, c10, rfl, hr10, hlc10, hcm10, hob10, _⟩ := ho10.form
    obtain ⟨M, hM⟩ : ∃ M, M = (lsD (dFre d)).length := ⟨_, rfl⟩
    have HM := Shut.mk hM
    have hMb : M ≤ 9223372036854775807 := by rw [hM]; unfold maxLen at hcm10; omega
    rw [← hM]
    have HA10 : Shut (∀ a, A10 = some a → w9.heap.size ≤ a.block) := ⟨fun a ha => hn10 a.block (hob10.trans (by rw [ha]; rfl))⟩
    have HR10 := Shut.mk hr10
    have HB10 := Shut.mk hb10
    have HL10 := Shut.mk (HL9.out.quiet hb10)
    have HO10 := Shut.mk (HO9.out.below hb10 (fun g hg => HO9.out.block_lt hg))
    have hs10 := hb10.size
    clear ho10 hb10 hn10 hr10 hob10 hM hlc10 hcm10
    obtain ⟨A9, c9, rfl, _⟩ := HO9.out.form
    go_wp2_with fail
    go_loopw [70] (fun i wr => ∃ k : Nat, k ≤ M ∧ i = .int .i64 k ∧ Shut (LStp w10 wr GL gd Z H7 (dRmvs (mineL l) (dFre d) ((lsD (dFre d)).take k)) l false)) (fun i _ => M - (intOf i).toNat)
    case atStart => exact ⟨0, Nat.zero_le _, rfl, ⟨LStp.same HL10.out⟩⟩
    case round =>
      obtain ⟨k, hk, rfl, HST⟩ := hrel
      by_cases hlt : k < M
      · have hkl : k < (lsD (dFre d)).length := by rw [← HM.out]; exact hlt
        obtain ⟨H11, hL11, hk11, hs11⟩ := HST.out
        obtain ⟨q1, q2, q3⟩ := rmvs_step (mine := mineL l) HCF.out hkl
        have hkn := HSZ.out _ (lsD_mem.1 (List.getElem_mem hkl))
        obtain ⟨f, hf⟩ : ∃ f, f = (lsD (dFre d))[k] := ⟨_, rfl⟩
        have hv : ((lsD (dFre d)).map Proofs.encStr)[k]? = some (.string ⟨f.toArray⟩) := by
          rw [List.getElem?_map, List.getElem?_eq_getElem hkl, hf]
          rfl
        obtain ⟨a10, hA10, hc10⟩ := HR10.out (fun e => by rw [e] at hv; cases hv)
        subst hA10
        have c0 := hc10 k _ hv
        have hx7 : ∀ x ∈ H7, x < w9.heap.size := fun x hx => Nat.lt_of_lt_of_le (HLT7.out x hx) hs9
        have c2 : wr.cell? (a10.add k) = some (.string ⟨f.toArray⟩) := (World.cell?_of_block (w := w10) (hk11.block _ (World.block_lt_of_cell? w10 _ c0) (fun hx => by
          rw [block_of_add] at hx
          have h1 := hx7 _ hx
          have h3 := HA10.out a10 rfl
          omega))).trans c0
        have ho11 : Own wr 9 1 (.slice A9 (N + 1) c9) (N + 1) ((mineL l).map Proofs.encStr) := hk11.own HO10.out (fun g hg hx => by
          have h1 := HN9.out g hg
          have h2 := HLT7.out g hx
          omega)
        have HCON := Shut.mk (contains_names _ (mineL l) (N + 1) ⟨f.toArray⟩ wr ho11 HMLEN.out)
        rw [show (ByteArray.mk f.toArray).data.toList = f by simp] at HCON
        rw [← hf] at q2 q3 hkn
        have HQ := Shut.mk (And.intro q1 (And.intro q2 q3))
        have HL11 := Shut.mk hL11
        have HKS := Shut.mk (And.intro hk11 hs11)
        have hkI : (k : Int) < (M : Int) := by omega
        have hfsz : (ByteArray.mk f.toArray).size ≤ reach := by
          rw [Lib.size_eq]
          simp
          unfold reach
          omega
        have HRMV := Shut.mk (ld_remove HL11.out (q1.liv.okN 0 (by omega)).ok ⟨f.toArray⟩ hfsz)
        rw [show (ByteArray.mk f.toArray).data.toList = f by simp] at HRMV
        rw [(del_calm q1 q2).1] at HRMV
        clear hv hc10 c0 hx7 ho11 q1 q2 q3 hL11 hk11 hs11 hf hfsz HST
        go_wp2_with fail
        refine HCON.out.mono ?_
        rintro e w11 ⟨rfl, rfl⟩
        by_cases hin : f ∈ mineL l
        · rw [decide_eq_true hin]
          have hnx : dRmvs (mineL l) (dFre d) ((lsD (dFre d)).take (k + 1)) = dRmvs (mineL l) (dFre d) ((lsD (dFre d)).take k) := by rw [HQ.out.2.2, dRmv, if_pos hin]
          have HNX := Shut.mk hnx
          clear hnx
          go_wp2_with fail
          go_roundw
          case rel => exact ⟨k + 1, by omega, by go_num, ⟨by rw [HNX.out]; exact ⟨H11, HL11.out, HKS.out.1, HKS.out.2⟩⟩⟩
          case measure => first | (simp [intOf]; done) | (simp [intOf]; omega)
        · rw [decide_eq_false hin]
          have hnx : dRmvs (mineL l) (dFre d) ((lsD (dFre d)).take (k + 1)) = (dDel (dRmvs (mineL l) (dFre d) ((lsD (dFre d)).take k)) f).2 := by rw [HQ.out.2.2, dRmv, if_neg hin]
          have HNX := Shut.mk hnx
          clear hnx
          go_wp2_with fail
          refine HRMV.out.mono ?_
          rintro e w12 ⟨rfl, hst⟩
          have HST := Shut.mk hst
          clear hst
          go_wp2_with fail
          go_roundw
          case rel => exact ⟨k + 1, by omega, by go_num, ⟨by rw [HNX.out]; exact LStp.trans HKS.out.1 HKS.out.2 HST.out⟩⟩
          case measure => first | (simp [intOf]; done) | (simp [intOf]; omega)
      · obtain rfl : k = M := by omega
        obtain ⟨H11, hL11, hk11, hs11⟩ := HST.out
        rw [List.take_of_length_le (by rw [← HM.out]; exact Nat.le_refl _)] at hL11
        obtain ⟨H12, hL12, hsub12, hlt12⟩ := hL11.trim
        have HSC := Shut.mk (scan_calls hL12 hlt12 hN9 HCM3.out hl (fun k hk => by
          have h1 := HWH.out k hk
          unfold whole wl at h1 ⊢
          rw [HCONT.out _ (List.getElem_mem _)]
          exact h1) (fun n hn => (H9.out n hn).2) (by rw [← HN.out]; omega))
        have hrecs : recsL (dRmvs (mineL l) (dFre d) (lsD (dFre d))) l = recsL d l := by
          unfold recsL
          rw [List.flatMap_def, List.flatMap_def]
          congr 1
          exact List.map_congr_left fun n hn => by rw [HCONT.out n hn]
        rw [hrecs] at HSC
        have HKB12 : Shut (Kb w wr F) := ⟨((HKB7.out.below_ HB9.out).below_ HB10.out).trans hk11 HH7.out⟩
        have hsz10 := HKB12.out.size
        have HH12 : Shut (∀ x ∈ H12, x ∈ F ∨ w.heap.size ≤ x) := ⟨fun x hx => (hs11 x (hsub12 x hx)).elim (HH7.out x) (fun h => .inr (by omega))⟩
        clear hL11 hk11 hs11 hL12 hsub12 hlt12 hrecs HST
        go_wp2_with fail
        refine HSC.out.mono ?_
        rintro e w13 ⟨v13, H13, rfl, hrec13, hv13, hL13, hk13, hs13, hcalm13⟩
        have HF := Shut.mk (And.intro hrec13 (And.intro hv13 (And.intro hL13 (And.intro hk13 (And.intro hs13 hcalm13)))))
        clear hrec13 hv13 hL13 hk13 hs13 hcalm13
        go_wp2_with fail
        go_ret3
        obtain ⟨hrec13, hv13, hL13, hk13, hs13, hcalm13⟩ := HF.out
        exact ⟨GL, v13, H13, rfl, hrec13.imp hsz10 (fun x hx => ⟨Nat.le_trans hsz10 hx.1, hx.2⟩), hv13, hL13, HKB12.out.trans hk13 HH12.out, fun x hx => (hs13 x hx).elim (HH12.out x) (fun h => .inr (Nat.le_trans hsz10 h)), by rw [HGL.out]; exact hs1, hcalm13⟩
  · rw [Bool.not_eq_true] at hfr
    rw [hfr]
    have hfd : dFre d = d := if_neg (by rw [hfr]; simp)
    have HL4 := HL3
    rw [← hfd] at HL4
    have HK4 : Shut (Kb w w3 F) := ⟨Kb.of_below HB3.out F⟩
    have HH4 := HHF
    clear hfd
    obtain ⟨F4, hD4, _⟩ := HL4.out.disk
    have HRM4 := Shut.mk (dd_read_man hD4)
    rw [HMB1.out.1, HMB1.out.2, HBL.out] at HRM4
    clear hD4
    go_wp2_with fail
    refine HRM4.out.mono ?_
    rintro e w5 ⟨A5, c5, E5, rfl, hE5, ho5, hb5⟩
    obtain rfl : E5 = 0 := hE5.out
    have HL5 := Shut.mk (HL4.out.quiet hb5)
    have HRB5 := Shut.mk (rdb_own _ ho5)
    have hac5 : 40 + 8 * N ≤ c5 := by
      obtain ⟨A6, c6, e6, _, h6, _⟩ := ho5.form
      cases e6
      exact h6
    have HB5 := Shut.mk hb5
    have HPA := Shut.mk (parse_calls A5 c5 N l w5 HRB5.out HN.out.symm hpos hm hac5 HP.out H9.out HL5.out.tb.k HL5.out.tb.b)
    clear hb5 ho5
    go_wp2_with fail
    refine HPA.out.mono ?_
    rintro e w6 ⟨g6, c6, rfl, ho6, hb6, hg6⟩
    obtain ⟨H6, hL6, hsub6, hlt6⟩ := HL5.out.trim
    have hL6' := hL6.quiet hb6
    have hg6lt := ho6.block_lt (g := g6) rfl
    obtain ⟨A7, c7, k1, k2, k3, k4, k5⟩ := hL6'.log
    have t1 : w6.cell? ⟨GL, 1, none⟩ = some (.slice A7 0 c7) := k1.cell 1
    have fr1 : w6.frozen? ⟨GL, 1, none⟩ = false := k1.free 1
    have hrd6 : Rd w6 (some ⟨g6, 0, none⟩) (its l) := by
      obtain ⟨A8, c8, e8, hr8, _⟩ := ho6.form
      cases e8
      exact hr8
    have hcap6 : N ≤ c6 := by
      obtain ⟨A8, c8, e8, _, h8, _⟩ := ho6.form
      cases e8
      exact h8
    have HL7 := Shut.mk (k5 (some ⟨g6, 0, none⟩) c6 l hrd6 (by rw [← HN.out]; exact ⟨hcap6, fun a ha => by cases ha; rfl⟩) (fun a ha => by
      cases ha
      have hz5 := HL5.out.zs
      exact ⟨fun hx => by have := hlt6 _ hx; simp only at this; omega, by show Z ≤ g6; omega⟩))
    rw [← HN.out] at HL7
    have HKB7 : Shut (Kb w (w6.setCell ⟨GL, 1, none⟩ (.slice (some ⟨g6, 0, none⟩) N c6)) F) := ⟨((HK4.out.below_ HB5.out).below_ hb6).trans ((Kb.refl w6 [GL]).setCell (p := ⟨GL, 1, none⟩) (by simp) _) (fun x hx => by
      rw [show x = GL by simpa using hx, HGL.out]
      exact .inr hs1)⟩
    have hs46 : w.heap.size ≤ w6.heap.size := Nat.le_trans HK4.out.size (Nat.le_trans HB5.out.size hb6.size)
    have HH7 : Shut (∀ x ∈ blkOf (some (⟨g6, 0, none⟩ : Addr)) ++ H6, x ∈ F ∨ w.heap.size ≤ x) := ⟨fun x hx => by
      rcases List.mem_append.1 hx with h | h
      · right
        rw [show x = g6 by simpa [blkOf] using h]
        have := HK4.out.size
        have := HB5.out.size
        omega
      · exact HH4.out x (hsub6 x h)⟩
    have HLT7 : Shut (∀ x ∈ blkOf (some (⟨g6, 0, none⟩ : Addr)) ++ H6, x < w6.heap.size) := ⟨fun x hx => by
      rcases List.mem_append.1 hx with h | h
      · rw [show x = g6 by simpa [blkOf] using h]
        exact hg6lt
      · exact Nat.lt_of_lt_of_le (hlt6 x h) hb6.size⟩
    have hsW7 : (w6.setCell ⟨GL, 1, none⟩ (.slice (some ⟨g6, 0, none⟩) N c6)).heap.size = w6.heap.size := by simp
    rw [← hsW7] at HLT7
    have hc7 : (w6.setCell ⟨GL, 1, none⟩ (.slice (some ⟨g6, 0, none⟩) N c6)).cell? ⟨GL, 1, none⟩ = some (.slice (some ⟨g6, 0, none⟩) N c6) := (k1.set_ 1 (.slice (some ⟨g6, 0, none⟩) N c6)).cell 1
    obtain ⟨W7, hW7⟩ : ∃ W7, w6.setCell ⟨GL, 1, none⟩ (.slice (some ⟨g6, 0, none⟩) N c6) = W7 := ⟨_, rfl⟩
    rw [hW7] at HL7 HKB7 hc7 HLT7
    clear hsW7
    obtain ⟨H7, hH7⟩ : ∃ H7, H7 = blkOf (some (⟨g6, 0, none⟩ : Addr)) ++ H6 := ⟨_, rfl⟩
    rw [← hH7] at HL7 HH7 HLT7
    clear hH7
    have HSG := Shut.mk (segments_calls HL7.out (fun n hn => (H9.out n hn).2) (by rw [← HN.out]; omega))
    rw [← HN.out] at HSG
    have hs7 : w.heap.size ≤ W7.heap.size := HKB7.out.size
    have HRD6 := Shut.mk hrd6
    clear ho6 hb6 hL6 hsub6 hlt6 hL6' k1 k2 k3 k4 k5 hrd6
    go_wp2_with fail
    refine HSG.out.mono ?_
    rintro e w8 ⟨v8, rfl, ho8, hb8, hn8⟩
    have HL8 := Shut.mk (HL7.out.quiet hb8)
    have HB8 := Shut.mk hb8
    have HO8 := Shut.mk ho8
    have HN8 := Shut.mk hn8
    have hs8 := hb8.size
    clear ho8 hb8 hn8 hW7 t1 fr1 hc7
    go_wp2_with (at_builtin; refine wpList_append _ rfl _ _ _ rfl 9 i0 _ 1 16 Tryz.underlying51 hi hz0 hz1 hz2 rfl (by decide) _ _ _ rfl (HO8.out.alloc _) _ 1 1 _ rfl (by rfl) (rd_new w8 _ 9) (by simp [Value.oneCell']) (by simp only [maxLen]; omega) (by omega) ?_; intro v9 w9 hap9)
    have hmine : (l.map seg).map Proofs.encStr ++ [Value.string ⟨#[109, 97, 110, 105, 102, 101, 115, 116]⟩] = (mineL l).map Proofs.encStr := by
      rw [mineL, List.map_append]
      rfl
    have HO9 := Shut.mk (hap9.own.cast rfl hmine)
    have HMLEN : Shut ((mineL l).length = N + 1) := ⟨by rw [mineL, List.length_append, List.length_map, ← HN.out]; rfl⟩
    have HB9 : Shut (Below W7.heap.size W7 w9) := ⟨(HB8.out.alloc hs8 _).grown hap9.grown (by simp; omega) HN8.out⟩
    have HN9 : Shut (∀ g, v9.ownBlock = some g → W7.heap.size ≤ g) := ⟨new_append (by simp; omega) HN8.out hap9.lies⟩
    have HL9 := Shut.mk (HL7.out.quiet HB9.out)
    obtain ⟨F9, hD9, _⟩ := HL9.out.disk
    have HLS := Shut.mk (dd_ls hD9 (by have := HCF.out.liv.n; omega))
    have hs9 := HB9.out.size
    clear hD9 hap9 hmine
    go_wp2_with fail
    refine HLS.out.mono ?_
    rintro e w10 ⟨v10, rfl, ho10, hb10, hn10⟩
    obtain ⟨A10, c10, rfl, hr10, hlc10, hcm10, hob10, _⟩ := ho10.form
    obtain ⟨M, hM⟩ : ∃ M, M = (lsD (dFre d)).length := ⟨_, rfl⟩
    have HM := Shut.mk hM
    have hMb : M ≤ 9223372036854775807 := by rw [hM]; unfold maxLen at hcm10; omega
    rw [← hM]
    have HA10 : Shut (∀ a, A10 = some a → w9.heap.size ≤ a.block) := ⟨fun a ha => hn10 a.block (hob10.trans (by rw [ha]; rfl))⟩
    have HR10 := Shut.mk hr10
    have HB10 := Shut.mk hb10
    have HL10 := Shut.mk (HL9.out.quiet hb10)
    have HO10 := Shut.mk (HO9.out.below hb10 (fun g hg => HO9.out.block_lt hg))
    have hs10 := hb10.size
    clear ho10 hb10 hn10 hr10 hob10 hM hlc10 hcm10
    obtain ⟨A9, c9, rfl, _⟩ := HO9.out.form
    go_wp2_with fail
    go_loopw [70] (fun i wr => ∃ k : Nat, k ≤ M ∧ i = .int .i64 k ∧ Shut (LStp w10 wr GL gd Z H7 (dRmvs (mineL l) (dFre d) ((lsD (dFre d)).take k)) l false)) (fun i _ => M - (intOf i).toNat)
    case atStart => exact ⟨0, Nat.zero_le _, rfl, ⟨LStp.same HL10.out⟩⟩
    case round =>
      obtain ⟨k, hk, rfl, HST⟩ := hrel
      by_cases hlt : k < M
      · have hkl : k < (lsD (dFre d)).length := by rw [← HM.out]; exact hlt
        obtain ⟨H11, hL11, hk11, hs11⟩ := HST.out
        obtain ⟨q1, q2, q3⟩ := rmvs_step (mine := mineL l) HCF.out hkl
        have hkn := HSZ.out _ (lsD_mem.1 (List.getElem_mem hkl))
        obtain ⟨f, hf⟩ : ∃ f, f = (lsD (dFre d))[k] := ⟨_, rfl⟩
        have hv : ((lsD (dFre d)).map Proofs.encStr)[k]? = some (.string ⟨f.toArray⟩) := by
          rw [List.getElem?_map, List.getElem?_eq_getElem hkl, hf]
          rfl
        obtain ⟨a10, hA10, hc10⟩ := HR10.out (fun e => by rw [e] at hv; cases hv)
        subst hA10
        have c0 := hc10 k _ hv
        have hx7 : ∀ x ∈ H7, x < w9.heap.size := fun x hx => Nat.lt_of_lt_of_le (HLT7.out x hx) hs9
        have c2 : wr.cell? (a10.add k) = some (.string ⟨f.toArray⟩) := (World.cell?_of_block (w := w10) (hk11.block _ (World.block_lt_of_cell? w10 _ c0) (fun hx => by
          rw [block_of_add] at hx
          have h1 := hx7 _ hx
          have h3 := HA10.out a10 rfl
          omega))).trans c0
        have ho11 : Own wr 9 1 (.slice A9 (N + 1) c9) (N + 1) ((mineL l).map Proofs.encStr) := hk11.own HO10.out (fun g hg hx => by
          have h1 := HN9.out g hg
          have h2 := HLT7.out g hx
          omega)
        have HCON := Shut.mk (contains_names _ (mineL l) (N + 1) ⟨f.toArray⟩ wr ho11 HMLEN.out)
        rw [show (ByteArray.mk f.toArray).data.toList = f by simp] at HCON
        rw [← hf] at q2 q3 hkn
        have HQ := Shut.mk (And.intro q1 (And.intro q2 q3))
        have HL11 := Shut.mk hL11
        have HKS := Shut.mk (And.intro hk11 hs11)
        have hkI : (k : Int) < (M : Int) := by omega
        have hfsz : (ByteArray.mk f.toArray).size ≤ reach := by
          rw [Lib.size_eq]
          simp
          unfold reach
          omega
        have HRMV := Shut.mk (ld_remove HL11.out (q1.liv.okN 0 (by omega)).ok ⟨f.toArray⟩ hfsz)
        rw [show (ByteArray.mk f.toArray).data.toList = f by simp] at HRMV
        rw [(del_calm q1 q2).1] at HRMV
        clear hv hc10 c0 hx7 ho11 q1 q2 q3 hL11 hk11 hs11 hf hfsz HST
        go_wp2_with fail
        refine HCON.out.mono ?_
        rintro e w11 ⟨rfl, rfl⟩
        by_cases hin : f ∈ mineL l
        · rw [decide_eq_true hin]
          have hnx : dRmvs (mineL l) (dFre d) ((lsD (dFre d)).take (k + 1)) = dRmvs (mineL l) (dFre d) ((lsD (dFre d)).take k) := by rw [HQ.out.2.2, dRmv, if_pos hin]
          have HNX := Shut.mk hnx
          clear hnx
          go_wp2_with fail
          go_roundw
          case rel => exact ⟨k + 1, by omega, by go_num, ⟨by rw [HNX.out]; exact ⟨H11, HL11.out, HKS.out.1, HKS.out.2⟩⟩⟩
          case measure => first | (simp [intOf]; done) | (simp [intOf]; omega)
        · rw [decide_eq_false hin]
          have hnx : dRmvs (mineL l) (dFre d) ((lsD (dFre d)).take (k + 1)) = (dDel (dRmvs (mineL l) (dFre d) ((lsD (dFre d)).take k)) f).2 := by rw [HQ.out.2.2, dRmv, if_neg hin]
          have HNX := Shut.mk hnx
          clear hnx
          go_wp2_with fail
          refine HRMV.out.mono ?_
          rintro e w12 ⟨rfl, hst⟩
          have HST := Shut.mk hst
          clear hst
          go_wp2_with fail
          go_roundw
          case rel => exact ⟨k + 1, by omega, by go_num, ⟨by rw [HNX.out]; exact LStp.trans HKS.out.1 HKS.out.2 HST.out⟩⟩
          case measure => first | (simp [intOf]; done) | (simp [intOf]; omega)
      · obtain rfl : k = M := by omega
        obtain ⟨H11, hL11, hk11, hs11⟩ := HST.out
        rw [List.take_of_length_le (by rw [← HM.out]; exact Nat.le_refl _)] at hL11
        obtain ⟨H12, hL12, hsub12, hlt12⟩ := hL11.trim
        have HSC := Shut.mk (scan_calls hL12 hlt12 hN9 HCM3.out hl (fun k hk => by
          have h1 := HWH.out k hk
          unfold whole wl at h1 ⊢
          rw [HCONT.out _ (List.getElem_mem _)]
          exact h1) (fun n hn => (H9.out n hn).2) (by rw [← HN.out]; omega))
        have hrecs : recsL (dRmvs (mineL l) (dFre d) (lsD (dFre d))) l = recsL d l := by
          unfold recsL
          rw [List.flatMap_def, List.flatMap_def]
          congr 1
          exact List.map_congr_left fun n hn => by rw [HCONT.out n hn]
        rw [hrecs] at HSC
        have HKB12 : Shut (Kb w wr F) := ⟨((HKB7.out.below_ HB9.out).below_ HB10.out).trans hk11 HH7.out⟩
        have hsz10 := HKB12.out.size
        have HH12 : Shut (∀ x ∈ H12, x ∈ F ∨ w.heap.size ≤ x) := ⟨fun x hx => (hs11 x (hsub12 x hx)).elim (HH7.out x) (fun h => .inr (by omega))⟩
        clear hL11 hk11 hs11 hL12 hsub12 hlt12 hrecs HST
        go_wp2_with fail
        refine HSC.out.mono ?_
        rintro e w13 ⟨v13, H13, rfl, hrec13, hv13, hL13, hk13, hs13, hcalm13⟩
        have HF := Shut.mk (And.intro hrec13 (And.intro hv13 (And.intro hL13 (And.intro hk13 (And.intro hs13 hcalm13)))))
        clear hrec13 hv13 hL13 hk13 hs13 hcalm13
        go_wp2_with fail
        go_ret3
        obtain ⟨hrec13, hv13, hL13, hk13, hs13, hcalm13⟩ := HF.out
        exact ⟨GL, v13, H13, rfl, hrec13.imp hsz10 (fun x hx => ⟨Nat.le_trans hsz10 hx.1, hx.2⟩), hv13, hL13, HKB12.out.trans hk13 HH12.out, fun x hx => (hs13 x hx).elim (HH12.out x) (fun h => .inr (Nat.le_trans hsz10 h)), by rw [HGL.out]; exact hs1, hcalm13⟩
end
end Go.Proofs.YtmlfeljhojmbbaaGreatDoor

namespace Go.Proofs.YtmlfeljhojmbbaaGreatDoor
open Go.RowKit Go.Maps Go.Sort
set_option linter.unusedSimpArgs false
set_option linter.unusedVariables false
set_option maxRecDepth 100000

theorem wlive_keys {d : Ds} (h : Key7 d) (l : List Nat) (dead : Bool) (ss : List Nat) : Key7 (lWrite d l dead ss).2.1 := by
  unfold lWrite
  split
  · exact wrt3_keys h _
  · exact dDel_keys (wrt3_keys h _) _
/-- closed segments, and the last one's number -/
def lsq (cs : List (Nat × List (List UInt8))) (m : Nat) : List Nat := cs.map (·.1) ++ [m]
theorem lsq_ne (cs : List (Nat × List (List UInt8))) (m : Nat) : lsq cs m ≠ [] := by simp [lsq]
theorem lsq_last (cs : List (Nat × List (List UInt8))) (m : Nat) (h : lsq cs m ≠ []) : (lsq cs m).getLast h = m := by simp [lsq]
theorem lsq_snoc (cs : List (Nat × List (List UInt8))) (m : Nat) (rm : List (List UInt8)) (k : Nat) : lsq (cs ++ [(m, rm)]) k = lsq cs m ++ [k] := by simp [lsq]
theorem mem_lsq {cs : List (Nat × List (List UInt8))} {m n : Nat} : n ∈ lsq cs m ↔ (∃ x ∈ cs, n = x.1) ∨ n = m := by
  simp only [lsq, List.mem_append, List.mem_map, List.mem_singleton]
  constructor
  · rintro (⟨x, hx, rfl⟩ | h)
    · exact .inl ⟨x, hx, rfl⟩
    · exact .inr h
  · rintro (⟨x, hx, rfl⟩ | h)
    · exact .inl ⟨x, hx, rfl⟩
    · exact .inr h
/-- the records of a log, the segments one behind the other -/
def flat (cs : List (Nat × List (List UInt8))) (rm : List (List UInt8)) : List (List UInt8) := cs.flatMap (·.2) ++ rm
structure Lgd (d : Ds) (cs : List (Nat × List (List UInt8))) (m : Nat) (rm : List (List UInt8)) (j : Nat) : Prop where
  man : look d.S manN = some (frm (manB (lsq cs m)), 40 + 8 * (lsq cs m).length)
  closed : ∀ x ∈ cs, look d.S (seg x.1) = some (frs x.2, (frs x.2).length)
  last : (rm = [] ∧ look d.S (seg m) = none) ∨ ∃ sy, look d.S (seg m) = some (frs rm, sy) ∧ (frs (rm.take j)).length ≤ sy
  files : ∀ s, look d.S s ≠ none → s = manN ∨ s = freshN ∨ ∃ n ∈ lsq cs m, s = seg n
  okc : ∀ x ∈ cs, ∀ r ∈ x.2, Okr r
  okm : ∀ r ∈ rm, Okr r
  up : (lsq cs m).Pairwise (· < ·)
  lo : ∀ n ∈ lsq cs m, 1 ≤ n
  jm : j ≤ rm.length
section
variable {d d' : Ds} {cs : List (Nat × List (List UInt8))} {m j : Nat} {rm : List (List UInt8)}
theorem up_le {l : List Nat} (h : l.Pairwise (· < ·)) (hl : l ≠ []) : ∀ n ∈ l, n ≤ l.getLast hl := by
  intro n hn
  obtain ⟨i, hi, rfl⟩ := List.mem_iff_getElem.1 hn
  rw [List.getLast_eq_getElem]
  by_cases hlt : i < l.length - 1
  · exact Nat.le_of_lt (List.pairwise_iff_getElem.1 h i (l.length - 1) hi (by omega) hlt)
  · have : i = l.length - 1 := by omega
    subst this
    exact Nat.le_refl _
theorem Lgd.le (h : Lgd d cs m rm j) : ∀ n ∈ lsq cs m, n ≤ m := fun n hn => by
  have := up_le h.up (lsq_ne cs m) n hn
  rwa [lsq_last] at this
theorem Lgd.lt (h : Lgd d cs m rm j) {x : Nat × List (List UInt8)} (hx : x ∈ cs) : x.1 < m := by
  have h1 := (List.pairwise_append.1 h.up).2.2 x.1 (List.mem_map_of_mem hx) m (by simp)
  exact h1
theorem up_length : ∀ {l : List Nat} (b : Nat), l.Pairwise (· < ·) → (∀ n ∈ l, b < n) → ∀ k, (∀ n ∈ l, n ≤ k) → l.length ≤ k - b
  | [], b, _, _, k, _ => Nat.zero_le _
  | x :: r, b, h, hb, k, hk => by
    rw [List.pairwise_cons] at h
    have h1 := up_length x h.2 (fun n hn => h.1 n hn) k (fun n hn => hk n (List.mem_cons_of_mem _ hn))
    have h2 := hb x List.mem_cons_self
    have h3 := hk x List.mem_cons_self
    rw [List.length_cons]
    omega
theorem Lgd.len (h : Lgd d cs m rm j) : (lsq cs m).length ≤ m := up_length 0 h.up (fun n hn => h.lo n hn) m h.le
theorem Lgd.cont_last (h : Lgd d cs m rm j) : cont d m = frs rm := by
  rcases h.last with ⟨h1, h2⟩ | ⟨sy, h1, _⟩
  · rw [cont, h2, h1]
    rfl
  · rw [cont, h1]
    rfl
theorem Lgd.cont_closed (h : Lgd d cs m rm j) {x : Nat × List (List UInt8)} (hx : x ∈ cs) : cont d x.1 = frs x.2 := by
  rw [cont, h.closed x hx]
  rfl
/-- the disk holds the same by every name but manifest.new -/
theorem Lgd.same (h : Lgd d cs m rm j) (hs : ∀ s, s ≠ freshN → look d'.S s = look d.S s) : Lgd d' cs m rm j := by
  refine ⟨by rw [hs _ man_ne]; exact h.man, fun x hx => by rw [hs _ (seg_ne_fresh _)]; exact h.closed x hx, by rw [hs _ (seg_ne_fresh _)]; exact h.last, fun s hs2 => ?_, h.okc, h.okm, h.up, h.lo, h.jm⟩
  by_cases hf : s = freshN
  · exact .inr (.inl hf)
  · rw [hs s hf] at hs2
    exact h.files s hs2
theorem Lgd.append (h : Lgd d cs m rm j) {r : List UInt8} (hr : Okr r) (hS : d'.S = addF d.S (seg m) (frm r)) : Lgd d' cs m (rm ++ [r]) j := by
  have hlk : ∀ s, s ≠ seg m → look d'.S s = look d.S s := fun s hs => by rw [hS, look_addF, if_neg hs]
  refine ⟨by rw [hlk _ (fun e => seg_ne_man m e.symm)]; exact h.man, fun x hx => ?_, .inr ?_, fun s hs => ?_, h.okc, fun y hy => ?_, h.up, h.lo, by rw [List.length_append]; have := h.jm; omega⟩
  · rw [hlk _ (fun e => by have := h.lt hx; have := seg_inj e; omega)]
    exact h.closed x hx
  · rcases h.last with ⟨h1, h2⟩ | ⟨sy, h1, h3⟩
    · refine ⟨0, ?_, ?_⟩
      · rw [hS, look_addF, if_pos rfl, h2, h1]
        simp [frs_one]
      · have hj := h.jm
        rw [h1] at hj
        have : j = 0 := by simpa using hj
        subst this
        simp [frs_nil]
    · refine ⟨sy, ?_, ?_⟩
      · rw [hS, look_addF, if_pos rfl, h1, frs_append, frs_one]
      · rw [List.take_append_of_le_length h.jm]
        exact h3
  · by_cases e : s = seg m
    · exact .inr (.inr ⟨m, mem_lsq.2 (.inr rfl), e⟩)
    · rw [hlk s e] at hs
      exact h.files s hs
  · rcases List.mem_append.1 hy with h1 | h1
    · exact h.okm y h1
    · rw [List.mem_singleton] at h1
      rw [h1]
      exact hr
/-- the last segment is synced -/
theorem Lgd.sync (h : Lgd d cs m rm j) {b : List UInt8} {sy : Nat} (hl : look d.S (seg m) = some (b, sy)) (hS : d'.S = setF d.S (seg m) b b.length) : Lgd d' cs m rm rm.length ∧ look d'.S (seg m) = some (frs rm, (frs rm).length) := by
  have hb : b = frs rm := by
    have := h.cont_last
    rw [cont, hl] at this
    exact this
  have hlk : ∀ s, s ≠ seg m → look d'.S s = look d.S s := fun s hs => by rw [hS, look_setF, if_neg hs]
  have hlm : look d'.S (seg m) = some (frs rm, (frs rm).length) := by
    rw [hS, look_setF, if_pos rfl, hl, hb]
    rfl
  refine ⟨⟨by rw [hlk _ (fun e => seg_ne_man m e.symm)]; exact h.man, fun x hx => ?_, .inr ⟨_, hlm, by rw [List.take_of_length_le (Nat.le_refl _)]; exact Nat.le_refl _⟩, fun s hs => ?_, h.okc, h.okm, h.up, h.lo, Nat.le_refl _⟩, hlm⟩
  · rw [hlk _ (fun e => by have := h.lt hx; have := seg_inj e; omega)]
    exact h.closed x hx
  · by_cases e : s = seg m
    · exact .inr (.inr ⟨m, mem_lsq.2 (.inr rfl), e⟩)
    · rw [hlk s e] at hs
      exact h.files s hs
/-- a new segment is listed -/
theorem Lgd.roll (h : Lgd d cs m rm j) (hlm : look d.S (seg m) = some (frs rm, (frs rm).length)) (hlk : ∀ s, look d'.S s = if s = manN then some (frm (manB (lsq cs m ++ [m + 1])), 40 + 8 * (lsq cs m ++ [m + 1]).length) else look d.S s) : Lgd d' (cs ++ [(m, rm)]) (m + 1) [] 0 := by
  have hsn : ∀ n, look d'.S (seg n) = look d.S (seg n) := fun n => by rw [hlk, if_neg (seg_ne_man n)]
  refine ⟨by rw [lsq_snoc, hlk, if_pos rfl], fun x hx => ?_, .inl ⟨rfl, ?_⟩, fun s hs => ?_, fun x hx => ?_, fun r hr => by simp at hr, ?_, fun n hn => ?_, Nat.le_refl _⟩
  · rw [hsn]
    rcases List.mem_append.1 hx with h1 | h1
    · exact h.closed x h1
    · rw [List.mem_singleton] at h1
      rw [h1]
      exact hlm
  · rw [hsn]
    cases hc : look d.S (seg (m + 1)) with
    | none => rfl
    | some p =>
      rcases h.files _ (by rw [hc]; simp) with e | e | ⟨n, hn, e⟩
      · exact absurd e (seg_ne_man _)
      · exact absurd e (seg_ne_fresh _)
      · have h1 := h.le n hn
        have h2 := seg_inj e
        omega
  · rw [lsq_snoc]
    by_cases e : s = manN
    · exact .inl e
    · rw [hlk, if_neg e] at hs
      rcases h.files s hs with e | e | ⟨n, hn, e⟩
      · exact .inl e
      · exact .inr (.inl e)
      · exact .inr (.inr ⟨n, List.mem_append_left _ hn, e⟩)
  · rcases List.mem_append.1 hx with h1 | h1
    · exact h.okc x h1
    · rw [List.mem_singleton] at h1
      rw [h1]
      exact h.okm
  · rw [lsq_snoc, List.pairwise_append]
    exact ⟨h.up, List.pairwise_singleton _ _, fun a ha b hb => by
      have h1 := h.le a ha
      have h2 : b = m + 1 := by simpa using hb
      omega⟩
  · rw [lsq_snoc] at hn
    rcases List.mem_append.1 hn with h1 | h1
    · exact h.lo n h1
    · have h2 : n = m + 1 := by simpa using h1
      omega
theorem flat_roll (cs : List (Nat × List (List UInt8))) (m : Nat) (rm : List (List UInt8)) : flat (cs ++ [(m, rm)]) [] = flat cs rm := by simp [flat]
theorem flat_snoc7 (cs : List (Nat × List (List UInt8))) (rm : List (List UInt8)) (r : List UInt8) : flat cs (rm ++ [r]) = flat cs rm ++ [r] := by simp [flat]
/-- how many records are sure to be there -/
def sureN (cs : List (Nat × List (List UInt8))) (j : Nat) : Nat := (cs.flatMap (·.2)).length + j
end
section
variable {w w' : World} {gl gd Z : Nat} {H : List Nat} {d : Ds} {cs : List (Nat × List (List UInt8))} {m : Nat} {dead : Bool}
theorem last_m (h : LD w gl gd Z H d (lsq cs m) dead) (hm : (lsq cs m).length < 100000000) : Calls Tryz.prog 50 #[gp gl] w fun e w' => e = .returned (.int .i64 (m : Int)) ∧ Below w.heap.size w w' := by
  have := last_calls h (lsq_ne cs m) hm
  rw [lsq_last] at this
  exact this
/-- what an Append leaves -/
structure AppTo (gl gd Z : Nat) (H : List Nat) (d : Ds) (cs : List (Nat × List (List UInt8))) (m : Nat) (rm : List (List UInt8)) (j : Nat) (N U : Nat) (r : List UInt8) (w : World) (E : Int) (w' : World) (d' : Ds) (cs' : List (Nat × List (List UInt8))) (m' : Nat) (rm' : List (List UInt8)) (j' : Nat) (dead' : Bool) : Prop where
  stp : LStp w w' gl gd Z H d' (lsq cs' m') dead'
  lgd : Lgd d' cs' m' rm' j'
  liv : Liv d' (N + 3) (U + 8000)
  num : m ≤ m' ∧ m' ≤ m + 1
  sure : sureN cs j ≤ sureN cs' j'
  f : d.fuse = -1 → d'.fuse = -1
  res : (E = 0 ∧ dead' = false ∧ look d'.S freshN = none ∧ flat cs' rm' = flat cs rm ++ [r] ∧ (if 8000 ≤ (frs rm).length then cs' = cs ++ [(m, rm)] ∧ m' = m + 1 ∧ rm' = [r] else cs' = cs ∧ m' = m ∧ rm' = rm ++ [r])) ∨
    (E = 62 ∧ dead' = true ∧ d.fuse ≠ -1 ∧ d'.fuse = 0 ∧ flat cs' rm' = flat cs rm)
end
end Go.Proofs.YtmlfeljhojmbbaaGreatDoor
