/- The document's disk in the words of the program's: what may be, and each call. The document's disk in the words of the program's: each call; the document's log in memory. Walks: the document's log: did, has, name, names. Walks: the document's log: its disk's calls, names, manifest, remove (printed by wip/genrl2.py). -/
import Derived.Test.YtmlfeljhojmbbaaGreatDoorOpM
import Derived.Test.YtmlfeljhojmbbaaGreatDoorPrA
namespace Go.Proofs.YtmlfeljhojmbbaaGreatDoor
open Go.RowKit Go.Maps Go.Sort
set_option linter.unusedSimpArgs false
set_option linter.unusedVariables false
set_option maxRecDepth 100000

/-- a disk that may be, k more writes ahead -/
structure Dv (d : Ds) (k : Nat) : Prop where
  keys : Key7 d
  us : used d.S ≤ 1099511627776
  lens : ∀ x ∈ d.S, x.2.2 ≤ x.2.1.length ∧ x.2.1.length ≤ 1048576
  nm : ∀ x ∈ d.S, x.1.length ≤ 32
  len : d.S.length + k ≤ 850000
  ok : OkN d k
  n9 : d.n + k ≤ 850000
theorem Dv.mono {d : Ds} {k j : Nat} (h : Dv d k) (hj : j ≤ k) : Dv d j := ⟨h.keys, h.us, h.lens, h.nm, by have := h.len; omega, h.ok.mono hj, by have := h.n9; omega⟩
theorem Dv.burn {d : Ds} {k : Nat} (h : Dv d k) (b : Bool) : Dv (d.burn b) k := ⟨h.keys, h.us, h.lens, h.nm, h.len, h.ok.burn b, h.n9⟩
theorem mem_setF {S : List Fl} {k b : List UInt8} {sy : Nat} {x : Fl} (h : x ∈ setF S k b sy) : (x = (k, b, sy) ∧ ∃ y ∈ S, y.1 = k) ∨ x ∈ S := by
  unfold setF at h
  obtain ⟨y, hy, rfl⟩ := List.mem_map.1 h
  by_cases hk : y.1 = k
  · rw [if_pos (by simpa using hk)]
    exact .inl ⟨rfl, y, hy, hk⟩
  · rw [if_neg (by simpa using hk)]
    exact .inr hy
theorem mem_addF {S : List Fl} {k b : List UInt8} {x : Fl} (h : x ∈ addF S k b) : x ∈ S ∨ (∃ b0 sy, look S k = some (b0, sy) ∧ x = (k, b0 ++ b, sy)) ∨ (look S k = none ∧ x = (k, b, 0)) := by
  unfold addF at h
  split at h
  · rename_i b0 sy hl
    obtain ⟨y, hy, rfl⟩ := List.mem_map.1 h
    by_cases hk : y.1 = k
    · rw [if_pos (by simpa using hk)]
      exact .inr (.inl ⟨b0, sy, hl, rfl⟩)
    · rw [if_neg (by simpa using hk)]
      exact .inl hy
  · rename_i hl
    rcases List.mem_append.1 h with h | h
    · exact .inl h
    · exact .inr (.inr ⟨hl, by simpa using h⟩)
theorem Dv.lk {d : Ds} {k : Nat} (h : Dv d k) {s b : List UInt8} {sy : Nat} (hl : look d.S s = some (b, sy)) : sy ≤ b.length ∧ b.length ≤ 1048576 ∧ s.length ≤ 32 := by
  have hm := look_mem hl
  have h1 := h.lens _ hm
  exact ⟨h1.1, h1.2, h.nm _ hm⟩
theorem addF_len (S : List Fl) (k b : List UInt8) : (addF S k b).length ≤ S.length + 1 := by
  unfold addF
  split
  · rw [List.length_map]
    omega
  · rw [List.length_append]
    exact Nat.le_refl _
theorem Dv.app {d : Ds} {k : Nat} (h : Dv d (k + 1)) (s b : List UInt8) : Dv (dApp d s b).2.2 k := by
  have hk := dApp_keys h.keys s b
  have ho := h.ok.app s b
  have hl := h.len
  have hn := h.n9
  revert hk ho
  unfold dApp
  split
  · intro hk ho
    exact ⟨hk, h.us, h.lens, h.nm, by show d.S.length + k ≤ _; omega, ho, by show d.n + k ≤ _; omega⟩
  · rename_i hc
    have hname : s.length ≤ 32 := nameOk_len (chErr_ok (Classical.not_not.1 hc)).1
    split
    · intro hk ho
      exact ⟨hk, h.us, h.lens, h.nm, by show d.S.length + k ≤ _; omega, ho, by show d.n + 1 + k ≤ _; omega⟩
    · rename_i hroom
      intro hk ho
      have hr := h.ok.r1
      have hbt : (b.take (appLen d.short b.length)).length ≤ appLen d.short b.length := by rw [List.length_take]; omega
      have hfit : lenF d.S s + appLen d.short b.length ≤ 1048576 := by omega
      refine ⟨hk, ?_, fun x hx => ?_, fun x hx => ?_, ?_, ho, by show d.n + 1 + k ≤ _; omega⟩
      · show used (addF d.S s _) ≤ _
        rw [used_addF7 h.keys]
        omega
      · rcases mem_addF hx with hx | ⟨b0, sy, hl0, rfl⟩ | ⟨hl0, rfl⟩
        · exact h.lens x hx
        · have h1 := h.lk hl0
          have h2 : lenF d.S s = b0.length := by unfold lenF; rw [hl0]; rfl
          show sy ≤ (b0 ++ _).length ∧ (b0 ++ _).length ≤ _
          rw [List.length_append]
          omega
        · exact ⟨Nat.zero_le _, by show (b.take _).length ≤ _; omega⟩
      · rcases mem_addF hx with hx | ⟨b0, sy, hl0, rfl⟩ | ⟨hl0, rfl⟩
        · exact h.nm x hx
        · exact hname
        · exact hname
      · have := addF_len d.S s (b.take (appLen d.short b.length))
        show (addF d.S s _).length + k ≤ _
        omega
theorem Dv.set {d : Ds} {k : Nat} (h : Dv d k) {s b0 : List UInt8} {sy0 : Nat} (hl : look d.S s = some (b0, sy0)) (b : List UInt8) (sy : Nat) (hb : b.length ≤ b0.length) (hs : sy ≤ b.length) : Dv { d.burn true with S := setF d.S s b sy } k := by
  have h1 := h.lk hl
  have hb1 := h.burn true
  refine ⟨keys_setF h.keys _ _ _, Nat.le_trans (used_setF_le (fun x hx hk => ?_)) h.us, fun x hx => ?_, fun x hx => ?_, by show (setF d.S s b sy).length + k ≤ _; unfold setF; rw [List.length_map]; exact h.len, ⟨hb1.ok.n, hb1.ok.r0, hb1.ok.r1, hb1.ok.s0, hb1.ok.s1, hb1.ok.f0, hb1.ok.f1⟩, h.n9⟩
  · have h2 := look_of_mem h.keys hx
    rw [hk, hl] at h2
    have h3 : (b0, sy0) = x.2 := by injection h2
    rw [← h3]
    exact hb
  · rcases mem_setF hx with ⟨rfl, _⟩ | hx
    · exact ⟨hs, Nat.le_trans hb h1.2.1⟩
    · exact h.lens x hx
  · rcases mem_setF hx with ⟨rfl, _⟩ | hx
    · exact h1.2.2
    · exact h.nm x hx
theorem Dv.sync {d : Ds} {k : Nat} (h : Dv d k) (s : List UInt8) : Dv (dSync d s).2 k := by
  unfold dSync
  split
  · exact h
  · split
    · exact h.burn _
    · rename_i b sy hl
      exact h.set hl b b.length (Nat.le_refl _) (Nat.le_refl _)
theorem Dv.delS {d : Ds} {k : Nat} (h : Dv d k) (s : List UInt8) : Dv { d.burn true with S := delF d.S s } k := by
  have hb1 := h.burn true
  have hsub : ∀ x ∈ delF d.S s, x ∈ d.S := fun x hx => (List.mem_filter.1 hx).1
  refine ⟨keys_delF h.keys _, Nat.le_trans (used_delF_le _ _) h.us, fun x hx => h.lens x (hsub x hx), fun x hx => h.nm x (hsub x hx), ?_, ⟨hb1.ok.n, hb1.ok.r0, hb1.ok.r1, hb1.ok.s0, hb1.ok.s1, hb1.ok.f0, hb1.ok.f1⟩, h.n9⟩
  have h1 : (delF d.S s).length ≤ d.S.length := List.length_filter_le _ _
  have h2 := h.len
  show (delF d.S s).length + k ≤ _
  omega
theorem Dv.del {d : Ds} {k : Nat} (h : Dv d k) (s : List UInt8) : Dv (dDel d s).2 k := by
  unfold dDel
  split
  · exact h
  · split
    · exact h.burn _
    · exact h.delS s
theorem Dv.ren {d : Ds} {k : Nat} (h : Dv d (k + 1)) (a z : List UInt8) : Dv (dRen d a z).2 k := by
  have hk := dRen_keys h.keys a z
  have ho := h.ok.ren a z
  have hl := h.len
  have hn := h.n9
  revert hk ho
  unfold dRen
  split
  · intro hk ho
    exact ⟨hk, h.us, h.lens, h.nm, by show d.S.length + k ≤ _; omega, ho, by show d.n + k ≤ _; omega⟩
  · rename_i hc
    have hname : z.length ≤ 32 := nameOk_len (chErr_ok (Classical.not_not.1 hc)).1
    split
    · intro hk ho
      exact ⟨hk, h.us, h.lens, h.nm, by show d.S.length + k ≤ _; omega, ho, by show d.n + k ≤ _; omega⟩
    · rename_i b sy hla
      intro hk ho
      have h1 := h.lk hla
      have hsub : ∀ x ∈ delF (delF d.S a) z, x ∈ d.S := fun x hx => (List.mem_filter.1 (List.mem_filter.1 hx).1).1
      refine ⟨hk, Nat.le_trans (used_renF_le hla) h.us, fun x hx => ?_, fun x hx => ?_, ?_, ho, by show d.n + 1 + k ≤ _; omega⟩
      · rcases List.mem_append.1 hx with hx | hx
        · exact h.lens x (hsub x hx)
        · obtain rfl : x = (z, b, sy) := by simpa using hx
          exact ⟨h1.1, h1.2.1⟩
      · rcases List.mem_append.1 hx with hx | hx
        · exact h.nm x (hsub x hx)
        · obtain rfl : x = (z, b, sy) := by simpa using hx
          exact hname
      · show (renF d.S a z b sy).length + k ≤ _
        unfold renF
        rw [List.length_append]
        have h2 : (delF (delF d.S a) z).length ≤ (delF d.S a).length := List.length_filter_le _ _
        have h3 : (delF d.S a).length ≤ d.S.length := List.length_filter_le _ _
        simp
        omega
theorem Dv.cut {d : Ds} {k : Nat} (h : Dv d k) (s : List UInt8) (x : Int) : Dv (dCut d s x).2 k := by
  unfold dCut
  split
  · exact h.burn _
  · split
    · exact h.burn _
    · rename_i hc _ b sy hl
      have h0 := (chErr_ok (Classical.not_not.1 hc)).1
      unfold cutOk at h0
      rw [hl] at h0
      simp only [decide_eq_true_eq] at h0
      have h1 := h.lk hl
      refine h.set hl _ _ (by rw [List.length_take]; omega) ?_
      rw [List.length_take]
      omega
end Go.Proofs.YtmlfeljhojmbbaaGreatDoor

namespace Go.Proofs.YtmlfeljhojmbbaaGreatDoor
open Go.RowKit Go.Maps Go.Sort
set_option linter.unusedSimpArgs false
set_option linter.unusedVariables false
set_option maxRecDepth 100000

structure ND (w : World) (gx : Nat) (G : List Nat) (d : Ds) (k : Nat) : Prop where
  go : ∃ T, NRd w gx G T d.room d.short d.fuse ∧ Same d T
  dv : Dv d k
  lt : ∀ x ∈ G, x < w.heap.size
def NStp (w w' : World) (gx : Nat) (G : List Nat) (d : Ds) (k : Nat) : Prop := ∃ G', ND w' gx G' d k ∧ Kb w w' G ∧ ∀ x ∈ G', x ∈ G ∨ w.heap.size ≤ x
theorem Dv.same {d : Ds} {T : List Fl} {k : Nat} (h : Dv d k) (hp : d.S.Perm T) (hr : T.Pairwise fun a b => a.1 < b.1) : Same d T :=
  ⟨hp, hr, by rw [← usedP hp]; exact h.us, fun x hx => h.lens x (hp.mem_iff.2 hx), by have := h.len; have := hp.length_eq; omega⟩
section
variable {w w' : World} {gx : Nat} {G : List Nat} {d : Ds} {k : Nat}
theorem nd_step {d' : Ds} {T' : List Fl} {r s f : Int} {k' : Nat} (h : RSt w w' gx G T' r s f) (hr : d'.room = r) (hs : d'.short = s) (hf : d'.fuse = f) (hp : d'.S.Perm T') (hri : T'.Pairwise fun a b => a.1 < b.1) (hd : Dv d' k') : NStp w w' gx G d' k' := by
  subst hr hs hf
  obtain ⟨G', h1, h2, h3⟩ := h
  obtain ⟨G0, h4, h5, h6⟩ := h1.tight
  exact ⟨G0, ⟨⟨T', h4, hd.same hp hri⟩, hd, h6⟩, h2, fun x hx => h3 x (h5 x hx)⟩
theorem ND.quiet (h : ND w gx G d k) (hb : Below w.heap.size w w') : ND w' gx G d k := by
  obtain ⟨T, h1, h2⟩ := h.go
  exact ⟨⟨T, h1.below hb, h2⟩, h.dv, fun x hx => Nat.lt_of_lt_of_le (h.lt x hx) hb.size⟩
theorem ND.kept (h : ND w gx G d k) {L : List Nat} (hk : Kb w w' L) (hL : ∀ x ∈ G, x ∉ L) : ND w' gx G d k := by
  obtain ⟨T, h1, h2⟩ := h.go
  exact ⟨⟨T, h1.kept hk hL, h2⟩, h.dv, fun x hx => Nat.lt_of_lt_of_le (h.lt x hx) hk.size⟩
theorem ND.mono (h : ND w gx G d k) {j : Nat} (hj : j ≤ k) : ND w gx G d j := ⟨h.go, h.dv.mono hj, h.lt⟩
theorem nd_append (h : ND w gx G d (k + 1)) (s : ByteArray) (A : Option Addr) (m c : Nat) (b : List UInt8) (hs : s.size ≤ reach) (hr : RdB w A b) (hm : b.length = m) (hmc : m ≤ c) (hml : m ≤ reach) :
    Calls Tryz.prog 22 #[gq gx, .string s, .slice A m c] w fun e w' => e = .returned (.tuple #[.int .i64 ((dApp d s.data.toList b).2.1 : Int), .int .i64 (dApp d s.data.toList b).1]) ∧ NStp w w' gx G (dApp d s.data.toList b).2.2 k := by
  obtain ⟨T, h1, hS⟩ := h.go
  have ho := h.dv.ok
  obtain ⟨q1, q2, q3, q4, q5, q6, q7⟩ := dApp_same hS s.data.toList b
  exact (rd_append h1 hS.ok ho.r0 ho.r1 ho.s0 ho.s1 ho.f0 ho.f1 s A m c b hs hr hm hmc hml).mono fun e w' ⟨he, ha⟩ => ⟨by rw [he, ← q1, ← q2], nd_step ha q5 q3 q4 q7 (appT_rising hS.ok.rising _ _) (h.dv.app _ _)⟩
theorem nd_sync (h : ND w gx G d k) (s : ByteArray) :
    Calls Tryz.prog 25 #[gq gx, .string s] w fun e w' => e = .returned (.int .i64 (dSync d s.data.toList).1) ∧ NStp w w' gx G (dSync d s.data.toList).2 k := by
  obtain ⟨T, h1, hS⟩ := h.go
  have ho := h.dv.ok
  obtain ⟨q1, q2, q3, q4, q5, q6⟩ := dSync_same hS s.data.toList
  exact (rd_sync h1 hS.ok ho.f0 ho.f1 s).mono fun e w' ⟨he, ha⟩ => ⟨by rw [he, q1], nd_step ha q3 q4 q5 q2 (syncT_rising hS.ok.rising _) (h.dv.sync _)⟩
theorem nd_remove (h : ND w gx G d k) (s : ByteArray) :
    Calls Tryz.prog 31 #[gq gx, .string s] w fun e w' => e = .returned (.int .i64 (dDel d s.data.toList).1) ∧ NStp w w' gx G (dDel d s.data.toList).2 k := by
  obtain ⟨T, h1, hS⟩ := h.go
  have ho := h.dv.ok
  obtain ⟨q1, q2, q3, q4, q5, q6⟩ := dDel_same hS s.data.toList
  exact (rd_remove h1 hS.ok ho.f0 ho.f1 s).mono fun e w' ⟨he, ha⟩ => ⟨by rw [he, q1], nd_step ha q3 q4 q5 q2 (delT_rising hS.ok.rising _) (h.dv.del _)⟩
theorem nd_rename (h : ND w gx G d (k + 1)) (s t : ByteArray) (ht : t.size ≤ reach) :
    Calls Tryz.prog 29 #[gq gx, .string s, .string t] w fun e w' => e = .returned (.int .i64 (dRen d s.data.toList t.data.toList).1) ∧ NStp w w' gx G (dRen d s.data.toList t.data.toList).2 k := by
  obtain ⟨T, h1, hS⟩ := h.go
  have ho := h.dv.ok
  obtain ⟨q1, q2, q3, q4, q5, q6⟩ := dRen_same hS s.data.toList t.data.toList
  exact (rd_rename h1 hS.ok ho.f0 ho.f1 s t ht).mono fun e w' ⟨he, ha⟩ => ⟨by rw [he, q1], nd_step ha q3 q4 q5 q2 (renT_rising hS.ok.rising _ _) (h.dv.ren _ _)⟩
theorem nd_cut (h : ND w gx G d k) (s : ByteArray) (x : Int) :
    Calls Tryz.prog 27 #[gq gx, .string s, .int .i64 x] w fun e w' => e = .returned (.int .i64 (dCut d s.data.toList x).1) ∧ NStp w w' gx G (dCut d s.data.toList x).2 k := by
  obtain ⟨T, h1, hS⟩ := h.go
  have ho := h.dv.ok
  obtain ⟨q1, q2, q3, q4, q5, q6⟩ := dCut_same hS s.data.toList x
  exact (rd_cut h1 hS.ok ho.f0 ho.f1 s x).mono fun e w' ⟨he, ha⟩ => ⟨by rw [he, q1], nd_step ha q3 q4 q5 q2 (cutT_rising hS.ok.rising _ _) (h.dv.cut _ _)⟩
theorem nd_list (h : ND w gx G d k) :
    Calls Tryz.prog 74 #[gq gx] w fun e w' => ∃ u, e = .returned u ∧ Own w' 9 1 u (lsD d).length ((lsD d).map Proofs.encStr) ∧ Below w.heap.size w w' ∧ ∀ g, u.ownBlock = some g → w.heap.size ≤ g := by
  obtain ⟨T, h1, hS⟩ := h.go
  have hl : lsD d = T.map (·.1) := rising_ext (lsD_rising h.dv.keys) (by rw [List.pairwise_map]; exact hS.ok.rising) (fun x => by
    rw [lsD_mem, hS.look]
    constructor
    · intro hx
      by_cases hm : x ∈ T.map (·.1)
      · exact hm
      · exact absurd (look_none.2 fun y hy e => hm (List.mem_map.2 ⟨y, hy, e⟩)) hx
    · intro hx e
      obtain ⟨y, hy, rfl⟩ := List.mem_map.1 hx
      exact look_none.1 e y hy rfl)
  rw [hl]
  exact rd_list h1 hS.ok
theorem nd_read (h : ND w gx G d k) (s : ByteArray) :
    Calls Tryz.prog 76 #[gq gx, .string s] w fun e w' => ∃ A c, e = .returned (.tuple #[.slice A (((look d.S s.data.toList).map (·.1)).getD []).length c, .int .i64 (if (look d.S s.data.toList).isSome then 0 else 60)]) ∧ Own w' 5 1 (.slice A (((look d.S s.data.toList).map (·.1)).getD []).length c) (((look d.S s.data.toList).map (·.1)).getD []).length (bys (((look d.S s.data.toList).map (·.1)).getD [])) ∧ Below w.heap.size w w' := by
  obtain ⟨T, h1, hS⟩ := h.go
  refine (rd_read h1 hS.ok s).mono ?_
  rintro e w' ⟨A, c, he, ho, hb, _⟩
  rw [← hS.look] at he ho
  exact ⟨A, c, he, ho, hb⟩
end
/-- the document's log and its disk: M holds what turns; the row of numbers stands -/
structure LX (w : World) (gl gx : Nat) (M : List Nat) (d : Ds) (k : Nat) (l : List Nat) (dead : Bool) : Prop where
  go : ∃ G A c, ND w gx G d k ∧ Blk w gl 119 #[gq gx, .slice A l.length c, .bool dead] ∧ Rd w A (its l) ∧ l.length ≤ c ∧ (∀ x ∈ G, x ∈ M ∧ x ≠ gl) ∧ ∀ a, A = some a → l ≠ [] → a.block ∉ M ∧ a.block < w.heap.size
  gl : gl ∈ M
  lt : ∀ x ∈ M, x < w.heap.size
def LXS (w w' : World) (gl gx : Nat) (M : List Nat) (d : Ds) (k : Nat) (l : List Nat) (dead : Bool) : Prop := ∃ M', LX w' gl gx M' d k l dead ∧ Kb w w' M ∧ ∀ x ∈ M', x ∈ M ∨ w.heap.size ≤ x
section
variable {w w' : World} {gl gx : Nat} {M : List Nat} {d d' : Ds} {k k' : Nat} {l l' : List Nat} {dead dead' : Bool}
theorem LX.quiet (h : LX w gl gx M d k l dead) (hb : Below w.heap.size w w') : LX w' gl gx M d k l dead := by
  obtain ⟨⟨G, A, c, h1, h2, h3, h4, h5, h6⟩, h7, h8⟩ := h
  have hk : Kb w w' [] := Kb.of_below hb []
  exact ⟨⟨G, A, c, h1.quiet hb, hk.blk h2 (fun hx => by cases hx), rd_kept h3 hk (fun a _ _ hx => by cases hx), h4, h5, fun a ha hl => ⟨(h6 a ha hl).1, Nat.lt_of_lt_of_le (h6 a ha hl).2 hb.size⟩⟩, h7, fun x hx => Nat.lt_of_lt_of_le (h8 x hx) hb.size⟩
theorem LXS.same (h : LX w gl gx M d k l dead) : LXS w w gl gx M d k l dead := ⟨M, h, Kb.refl _ _, fun x hx => .inl hx⟩
theorem LXS.trans {w'' : World} {M' : List Nat} (h2 : Kb w w' M) (h3 : ∀ x ∈ M', x ∈ M ∨ w.heap.size ≤ x) (h : LXS w' w'' gl gx M' d k l dead) : LXS w w'' gl gx M d k l dead := by
  obtain ⟨F2, a1, a2, a3⟩ := h
  exact ⟨F2, a1, h2.trans a2 h3, fun x hx => (a3 x hx).elim (h3 x) fun h => .inr (Nat.le_trans h2.size h)⟩
theorem LX.disk (h : LX w gl gx M d k l dead) : ∃ G, ND w gx G d k ∧ ∀ {w' : World} {d' : Ds} {k' : Nat}, NStp w w' gx G d' k' → LXS w w' gl gx M d' k' l dead := by
  obtain ⟨⟨G, A, c, h1, h2, h3, h4, h5, h6⟩, h7, h8⟩ := h
  refine ⟨G, h1, ?_⟩
  rintro w' d' k' ⟨G', q1, q2, q3⟩
  have hgl : gl < w.heap.size := h2.lt
  refine ⟨G' ++ M, ⟨⟨G', A, c, q1, q2.blk h2 (fun hx => (h5 _ hx).2 rfl), rd_kept h3 q2 (fun a ha hl hx => (h6 a ha (ne_its hl)).1 (h5 _ hx).1), h4, fun x hx => ⟨List.mem_append_left _ hx, ?_⟩, fun a ha hl => ⟨fun hx => ?_, Nat.lt_of_lt_of_le (h6 a ha hl).2 q2.size⟩⟩, List.mem_append_right _ h7, fun x hx => ?_⟩, q2.mono fun x hx => (h5 x hx).1, fun x hx => ?_⟩
  · rcases q3 x hx with h | h
    · exact (h5 x h).2
    · omega
  · obtain ⟨b1, b2⟩ := h6 a ha hl
    rcases List.mem_append.1 hx with hx | hx
    · rcases q3 _ hx with h | h
      · exact b1 (h5 _ h).1
      · omega
    · exact b1 hx
  · rcases List.mem_append.1 hx with hx | hx
    · exact q1.lt x hx
    · exact Nat.lt_of_lt_of_le (h8 x hx) q2.size
  · rcases List.mem_append.1 hx with hx | hx
    · exact (q3 x hx).imp (fun h => (h5 x h).1) id
    · exact .inl hx
/-- dead -/
theorem LX.setd (h : LX w gl gx M d k l dead) (b : Bool) : LXS w (w.setCell ⟨gl, 2, none⟩ (.bool b)) gl gx M d k l b ∧ w.cell? ⟨gl, 2, none⟩ = some (.bool dead) ∧ w.frozen? ⟨gl, 2, none⟩ = false := by
  obtain ⟨⟨G, A, c, h1, h2, h3, h4, h5, h6⟩, h7, h8⟩ := h
  have hk : Kb w (w.setCell ⟨gl, 2, none⟩ (.bool b)) [gl] := (Kb.refl w _).setCell (by simp) _
  refine ⟨⟨M, ⟨⟨G, A, c, h1.kept hk (fun x hx hxL => (h5 x hx).2 (by simpa using hxL)), h2.set_ 2 (.bool b), rd_kept h3 hk (fun a ha hl hx => ?_), h4, h5, fun a ha hl => ⟨(h6 a ha hl).1, Nat.lt_of_lt_of_le (h6 a ha hl).2 hk.size⟩⟩, h7, fun x hx => Nat.lt_of_lt_of_le (h8 x hx) hk.size⟩, hk.mono (fun x hx => ?_), fun x hx => .inl hx⟩, h2.cell 2, h2.free 2⟩
  · refine (h6 a ha (ne_its hl)).1 ?_
    rw [show a.block = gl by simpa using hx]
    exact h7
  · rw [show x = gl by simpa using hx]
    exact h7
/-- its row -/
theorem LX.setl (h : LX w gl gx M d k l dead) {A : Option Addr} {c : Nat} {l' : List Nat} (hr : Rd w A (its l')) (hc : l'.length ≤ c) (hA : ∀ a, A = some a → l' ≠ [] → a.block ∉ M ∧ a.block < w.heap.size) : LXS w (w.setCell ⟨gl, 1, none⟩ (.slice A l'.length c)) gl gx M d k l' dead ∧ (w.setCell ⟨gl, 1, none⟩ (.slice A l'.length c)).cell? ⟨gl, 1, none⟩ = some (.slice A l'.length c) ∧ w.frozen? ⟨gl, 1, none⟩ = false ∧ ∃ v, w.cell? ⟨gl, 1, none⟩ = some v := by
  obtain ⟨⟨G, A0, c0, h1, h2, h3, h4, h5, h6⟩, h7, h8⟩ := h
  have hk : Kb w (w.setCell ⟨gl, 1, none⟩ (.slice A l'.length c)) [gl] := (Kb.refl w _).setCell (by simp) _
  refine ⟨⟨M, ⟨⟨G, A, c, h1.kept hk (fun x hx hxL => (h5 x hx).2 (by simpa using hxL)), h2.set_ 1 _, rd_kept hr hk (fun a ha hl hx => ?_), hc, h5, fun a ha hl => ⟨(hA a ha hl).1, Nat.lt_of_lt_of_le (hA a ha hl).2 hk.size⟩⟩, h7, fun x hx => Nat.lt_of_lt_of_le (h8 x hx) hk.size⟩, hk.mono (fun x hx => ?_), fun x hx => .inl hx⟩, (h2.set_ 1 _).cell 1, h2.free 1, _, h2.cell 1⟩
  · refine (hA a ha (ne_its hl)).1 ?_
    rw [show a.block = gl by simpa using hx]
    exact h7
  · rw [show x = gl by simpa using hx]
    exact h7
theorem LX.c0 (h : LX w gl gx M d k l dead) : w.cell? ⟨gl, 0, none⟩ = some (gq gx) := by
  obtain ⟨⟨G, A, c, h1, h2, _⟩, _⟩ := h
  exact h2.cell 0
theorem LX.row (h : LX w gl gx M d k l dead) : ∃ A c, w.cell? ⟨gl, 1, none⟩ = some (.slice A l.length c) ∧ Rd w A (its l) ∧ l.length ≤ c ∧ ∀ a, A = some a → l ≠ [] → a.block ∉ M ∧ a.block < w.heap.size := by
  obtain ⟨⟨G, A, c, h1, h2, h3, h4, _, h6⟩, _⟩ := h
  exact ⟨A, c, h2.cell 1, h3, h4, h6⟩
theorem LX.dv (h : LX w gl gx M d k l dead) : Dv d k := by
  obtain ⟨⟨G, A, c, h1, _⟩, _⟩ := h
  exact h1.dv
theorem LX.mono (h : LX w gl gx M d k l dead) {j : Nat} (hj : j ≤ k) : LX w gl gx M d j l dead := by
  obtain ⟨⟨G, A, c, h1, h2⟩, h7, h8⟩ := h
  exact ⟨⟨G, A, c, h1.mono hj, h2⟩, h7, h8⟩
end
end Go.Proofs.YtmlfeljhojmbbaaGreatDoor

namespace Go.Proofs.YtmlfeljhojmbbaaGreatDoor
open Go.RowKit Go.Maps Go.Sort
set_option linter.unusedSimpArgs false
set_option linter.unusedVariables false
set_option maxRecDepth 100000

section
variable {w w' : World} {gl gx : Nat} {M : List Nat} {d d' : Ds} {k k' : Nat} {l l' : List Nat} {dead dead' : Bool}
theorem rdid_calls (h : LX w gl gx M d k l dead) (E : Int) : Calls Tryz.prog 99 #[gq gl, .int .i64 E] w fun e w' => e = .returned (.int .i64 E) ∧ ∃ dead', LXS w w' gl gx M d k l dead' := by
  obtain ⟨_, q2, fr⟩ := h.setd dead
  have HS := Shut.mk (fun b => (h.setd b).1)
  cases dead with
  | true =>
    go_enter Tryz.func99, Tryz.ntmps99
    go_wp2_with fail
    go_ret
    exact ⟨rfl, _, HS.out _⟩
  | false =>
    by_cases hE : E = 62
    · subst hE
      go_enter Tryz.func99, Tryz.ntmps99
      go_wp2_with fail
      go_ret
      exact ⟨rfl, _, HS.out _⟩
    · go_enter Tryz.func99, Tryz.ntmps99
      go_wp2_with fail
      go_ret
      exact ⟨rfl, _, HS.out _⟩
theorem rhas_calls (v : Value) (ls : List (List UInt8)) (n : Nat) (s : ByteArray) (w : World) (ho : Own w 9 1 v n (ls.map Proofs.encStr)) (hn : ls.length = n) (hn9 : n ≤ 100000000) :
    Calls Tryz.prog 73 #[v, .string s] w fun e w' => e = .returned (.bool (decide (s.data.toList ∈ ls))) ∧ w = w' := by
  obtain ⟨A, c, rfl, hr, _⟩ := ho.form
  have HR := Shut.mk hr
  have HN := Shut.mk hn
  clear ho hr hn
  go_enter Tryz.func73, Tryz.ntmps73
  go_wp2_with fail
  go_loopw [9] (fun i wr => ∃ q : Nat, q ≤ n ∧ i = .int .i64 q ∧ wr = w ∧ Shut (s.data.toList ∉ ls.take q)) (fun i _ => n - (intOf i).toNat)
  case atStart => exact ⟨0, Nat.zero_le _, rfl, by trivial, ⟨by simp⟩⟩
  case round =>
    obtain ⟨q, hq, rfl, rfl, HT⟩ := hrel
    by_cases hlt : q < n
    · have hql : q < ls.length := by rw [HN.out]; exact hlt
      obtain ⟨f, hf⟩ : ∃ f, f = ls[q] := ⟨_, rfl⟩
      have hv : (ls.map Proofs.encStr)[q]? = some (.string ⟨f.toArray⟩) := by
        rw [List.getElem?_map, List.getElem?_eq_getElem hql, hf]
        rfl
      obtain ⟨a, hA, hc⟩ := HR.out (fun e => by rw [e] at hv; cases hv)
      subst hA
      have c0 := hc q _ hv
      have HTK : Shut (ls.take (q + 1) = ls.take q ++ [f]) := ⟨by rw [List.take_succ_eq_append_getElem hql, hf]⟩
      have HMEM : Shut (f ∈ ls) := ⟨by rw [hf]; exact List.getElem_mem _⟩
      have hqI : (q : Int) < (n : Int) := by omega
      have hse : (f == s.toList) = decide (f = s.data.toList) := by
        have h9 := str_eq (ByteArray.mk f.toArray) s
        simpa using h9
      clear hc hf hql hv
      by_cases hfs : f = s.data.toList
      · have hse2 := hse.trans (decide_eq_true hfs)
        have HIN : Shut (decide (s.data.toList ∈ ls) = true) := ⟨decide_eq_true (hfs ▸ HMEM.out)⟩
        clear hse hfs
        go_wp2_with fail
        go_ret
        exact ⟨by rw [HIN.out]; rfl, rfl⟩
      · have hse2 := hse.trans (decide_eq_false hfs)
        have HT2 : Shut (s.data.toList ∉ ls.take (q + 1)) := ⟨fun hx => by
          rw [HTK.out] at hx
          rcases List.mem_append.1 hx with h | h
          · exact HT.out h
          · exact hfs (by simpa using h : s.data.toList = f).symm⟩
        clear hse hfs
        go_wp2_with fail
        go_roundw
        case rel => exact ⟨q + 1, by omega, by go_num, by trivial, HT2⟩
        case measure => first | (simp [intOf]; done) | (simp [intOf]; omega)
    · obtain rfl : q = n := by omega
      have HOUT : Shut (decide (s.data.toList ∈ ls) = false) := ⟨decide_eq_false (fun hx => HT.out (by rw [List.take_of_length_le (by rw [HN.out]; exact Nat.le_refl _)]; exact hx))⟩
      go_wp2_with fail
      go_ret
      exact ⟨by rw [HOUT.out]; rfl, rfl⟩
end
/-- so many digits of a number, the lowest last -/
def dgs : Nat → Nat → List UInt8
  | 0, _ => []
  | j + 1, n => UInt8.ofNat (48 + n / 10 ^ j % 10) :: dgs j n
theorem dgs_snoc : ∀ (j n : Nat), dgs (j + 1) n = dgs j (n / 10) ++ [UInt8.ofNat (48 + n % 10)]
  | 0, n => by simp [dgs]
  | j + 1, n => by
    rw [show dgs (j + 1 + 1) n = UInt8.ofNat (48 + n / 10 ^ (j + 1) % 10) :: dgs (j + 1) n from rfl, dgs_snoc j n, show dgs (j + 1) (n / 10) = UInt8.ofNat (48 + n / 10 / 10 ^ j % 10) :: dgs j (n / 10) from rfl, Nat.div_div_eq_div_mul, ← Nat.pow_succ']
    rfl
theorem dgs_zero : ∀ j, dgs j 0 = List.replicate j 48
  | 0 => rfl
  | j + 1 => by
    rw [show dgs (j + 1) 0 = UInt8.ofNat (48 + 0 / 10 ^ j % 10) :: dgs j 0 from rfl, dgs_zero j, Nat.zero_div]
    rfl
theorem dgs_dec : ∀ (j n : Nat), n < 10 ^ (j + 1) → dgs (j + 1) n = List.replicate (j + 1 - Lib.nDigits n) 48 ++ Lib.decDigits n
  | j, n, h => by
    rw [dgs_snoc]
    by_cases h1 : n < 10
    · rw [Lib.nDigits_small h1, Lib.decDigits_one h1, Nat.div_eq_of_lt h1, dgs_zero, Nat.mod_eq_of_lt h1]
      rfl
    · rw [Lib.nDigits_big h1, decDigits_big h1]
      cases j with
      | zero => simp at h; omega
      | succ j =>
        rw [dgs_dec j (n / 10) (by rw [Nat.pow_succ] at h; omega), List.append_assoc]
        congr 2
        omega
theorem dgs_length : ∀ (j n : Nat), (dgs j n).length = j
  | 0, _ => rfl
  | j + 1, n => by rw [show dgs (j + 1) n = UInt8.ofNat (48 + n / 10 ^ j % 10) :: dgs j n from rfl, List.length_cons, dgs_length j n]
theorem seg_dgs {n : Nat} (h : n ≤ 99999999) : seg n = 115 :: dgs 8 n := by
  rw [dgs_dec 7 n (by omega)]
  rfl
theorem bytes_app (a b : ByteArray) : (a ++ b).data.toList = a.data.toList ++ b.data.toList := by
  rw [ByteArray.data_append]
  simp
theorem dig_ext (D : Nat) (h : D < 10) (b : ByteArray) : ((ByteArray.mk #[48, 49, 50, 51, 52, 53, 54, 55, 56, 57]).extract D (D + 1) ++ b).data.toList = UInt8.ofNat (48 + D) :: b.data.toList := by
  rw [bytes_app]
  have : D = 0 ∨ D = 1 ∨ D = 2 ∨ D = 3 ∨ D = 4 ∨ D = 5 ∨ D = 6 ∨ D = 7 ∨ D = 8 ∨ D = 9 := by omega
  rcases this with rfl | rfl | rfl | rfl | rfl | rfl | rfl | rfl | rfl | rfl <;> rfl
theorem rname_calls (n : Nat) (w : World) (h : n ≤ 99999999) : Calls Tryz.prog 101 #[.int .i64 (n : Int)] w fun e w' => e = .returned (.string (segS n)) ∧ w = w' := by
  go_enter Tryz.func101, Tryz.ntmps101
  go_wp2_with fail
  go_loopw [0, 3, 4] (fun m s i wr => ∃ (q : Nat) (b : ByteArray), q ≤ 8 ∧ i = .int .i64 q ∧ m = .int .i64 ((n / 10 ^ q : Nat) : Int) ∧ s = .string b ∧ Shut (b.data.toList = dgs q n) ∧ wr = w) (fun _ _ i _ => 8 - (intOf i).toNat)
  case atStart => exact ⟨0, _, Nat.zero_le _, rfl, by simp, rfl, ⟨rfl⟩, by trivial⟩
  case round =>
    obtain ⟨q, b, hq, rfl, rfl, rfl, HB, rfl⟩ := hrel
    by_cases hlt : q < 8
    · have hqI : (q : Int) < 8 := by omega
      obtain ⟨P, hP⟩ : ∃ P, P = n / 10 ^ q := ⟨_, rfl⟩
      obtain ⟨D, hD⟩ : ∃ D, D = P % 10 := ⟨_, rfl⟩
      have hP9 : P ≤ 99999999 := by rw [hP]; exact Nat.le_trans (Nat.div_le_self _ _) h
      have HNX : Shut (n / 10 ^ (q + 1) = P / 10 ∧ dgs (q + 1) n = UInt8.ofNat (48 + D) :: dgs q n) := ⟨by rw [Nat.pow_succ, ← Nat.div_div_eq_div_mul, ← hP], by rw [hD, hP]; rfl⟩
      have hmod : (P : Int).tmod 10 = (D : Int) := by rw [Int.tmod_eq_emod_of_nonneg (by omega)]; omega
      have hdiv : (P : Int).tdiv 10 = ((P / 10 : Nat) : Int) := by rw [Int.tdiv_eq_ediv_of_nonneg (by omega)]; omega
      have hD10 : D < 10 := by omega
      have hDI : (D : Int) < 10 := by omega
      rw [← hP]
      clear hP hD
      have hbs : b.size ≤ 8 := by
        have h9 := congrArg List.length HB.out
        rw [dgs_length] at h9
        have h8 : b.size = b.data.toList.length := by rw [Lib.size_eq]
        omega
      have hcat : ¬ 9223372036854775807 < min (D + 1) 10 - D + b.size := by omega
      go_wp2_with fail
      go_roundw
      case rel =>
        refine ⟨q + 1, _, by omega, by go_num, by rw [HNX.out.1]; push_cast; rfl, rfl, ⟨?_⟩, by trivial⟩
        rw [HNX.out.2, dig_ext D hD10, HB.out]
      case measure => first | (simp [intOf]; done) | (simp [intOf]; omega)
    · obtain rfl : q = 8 := by omega
      have HE : Shut (ByteArray.mk #[115] ++ b = segS n) := ⟨by
        apply ByteArray.ext
        apply Array.ext'
        rw [bytes_app, HB.out, segS_list, seg_dgs h]
        rfl⟩
      have hbs : b.size = 8 := by
        have h9 := congrArg List.length HB.out
        rw [dgs_length] at h9
        have h8 : b.size = b.data.toList.length := by rw [Lib.size_eq]
        omega
      have hcat : ¬ 9223372036854775807 < 1 + b.size := by omega
      go_wp2_with fail
      go_ret
      exact ⟨by rw [← HE.out]; rfl, rfl⟩
end Go.Proofs.YtmlfeljhojmbbaaGreatDoor

namespace Go.Proofs.YtmlfeljhojmbbaaGreatDoor
open Go.RowKit Go.Maps Go.Sort
set_option linter.unusedSimpArgs false
set_option linter.unusedVariables false
set_option maxRecDepth 100000

theorem lkstep {w w1 w2 : World} {H H1 H2 : List Nat} (h : Kb w w1 H ∧ ∀ x ∈ H1, x ∈ H ∨ w.heap.size ≤ x) (h2 : Kb w1 w2 H1 ∧ ∀ x ∈ H2, x ∈ H1 ∨ w1.heap.size ≤ x) : Kb w w2 H ∧ ∀ x ∈ H2, x ∈ H ∨ w.heap.size ≤ x :=
  ⟨h.1.trans h2.1 h.2, fun x hx => (h2.2 x hx).elim (h.2 x) fun h1 => .inr (Nat.le_trans h.1.size h1)⟩
theorem lkquiet {w w1 w2 : World} {H H1 : List Nat} (h : Kb w w1 H ∧ ∀ x ∈ H1, x ∈ H ∨ w.heap.size ≤ x) (hb : Below w1.heap.size w1 w2) : Kb w w2 H ∧ ∀ x ∈ H1, x ∈ H ∨ w.heap.size ≤ x := ⟨h.1.below_ hb, h.2⟩
section
variable {w w' : World} {gl gx : Nat} {M : List Nat} {d d' : Ds} {k k' : Nat} {l l' : List Nat} {dead dead' : Bool}
theorem lx_append (h : LX w gl gx M d (k + 1) l dead) (s : ByteArray) (A : Option Addr) (m c : Nat) (b : List UInt8) (hs : s.size ≤ reach) (hr : RdB w A b) (hm : b.length = m) (hmc : m ≤ c) (hml : m ≤ reach) :
    Calls Tryz.prog 22 #[gq gx, .string s, .slice A m c] w fun e w' => e = .returned (.tuple #[.int .i64 ((dApp d s.data.toList b).2.1 : Int), .int .i64 (dApp d s.data.toList b).1]) ∧ LXS w w' gl gx M (dApp d s.data.toList b).2.2 k l dead := by
  obtain ⟨G, h1, h2⟩ := h.disk
  exact (nd_append h1 s A m c b hs hr hm hmc hml).mono fun e w' ⟨he, ha⟩ => ⟨he, h2 ha⟩
theorem lx_sync (h : LX w gl gx M d k l dead) (s : ByteArray) :
    Calls Tryz.prog 25 #[gq gx, .string s] w fun e w' => e = .returned (.int .i64 (dSync d s.data.toList).1) ∧ LXS w w' gl gx M (dSync d s.data.toList).2 k l dead := by
  obtain ⟨G, h1, h2⟩ := h.disk
  exact (nd_sync h1 s).mono fun e w' ⟨he, ha⟩ => ⟨he, h2 ha⟩
theorem lx_remove (h : LX w gl gx M d k l dead) (s : ByteArray) :
    Calls Tryz.prog 31 #[gq gx, .string s] w fun e w' => e = .returned (.int .i64 (dDel d s.data.toList).1) ∧ LXS w w' gl gx M (dDel d s.data.toList).2 k l dead := by
  obtain ⟨G, h1, h2⟩ := h.disk
  exact (nd_remove h1 s).mono fun e w' ⟨he, ha⟩ => ⟨he, h2 ha⟩
theorem lx_rename (h : LX w gl gx M d (k + 1) l dead) (s t : ByteArray) (ht : t.size ≤ reach) :
    Calls Tryz.prog 29 #[gq gx, .string s, .string t] w fun e w' => e = .returned (.int .i64 (dRen d s.data.toList t.data.toList).1) ∧ LXS w w' gl gx M (dRen d s.data.toList t.data.toList).2 k l dead := by
  obtain ⟨G, h1, h2⟩ := h.disk
  exact (nd_rename h1 s t ht).mono fun e w' ⟨he, ha⟩ => ⟨he, h2 ha⟩
theorem lx_list (h : LX w gl gx M d k l dead) :
    Calls Tryz.prog 74 #[gq gx] w fun e w' => ∃ u, e = .returned u ∧ Own w' 9 1 u (lsD d).length ((lsD d).map Proofs.encStr) ∧ Below w.heap.size w w' ∧ ∀ g, u.ownBlock = some g → w.heap.size ≤ g := by
  obtain ⟨G, h1, h2⟩ := h.disk
  exact nd_list h1
theorem lsD_len (h : LX w gl gx M d k l dead) : (lsD d).length ≤ 850000 := by
  have h1 := h.dv.len
  unfold lsD
  rw [List.length_mergeSort, List.length_map]
  omega
/-- has of the disk's names -/
theorem mem_look (d : Ds) (s : List UInt8) : decide (s ∈ lsD d) = (look d.S s).isSome := by
  rw [Bool.eq_iff_iff, decide_eq_true_eq, lsD_mem]
  cases look d.S s <;> simp
theorem rnames_calls (A : Option Addr) (c N : Nat) (l : List Nat) (w : World) (hr : Rd w A (its l)) (hl : ∀ n ∈ l, n ≤ 99999999) (hN : N = l.length) (hm : N ≤ 100000000) : Calls Tryz.prog 78 #[.slice A N c] w fun e w' => ∃ v, e = .returned v ∧ Own w' 9 1 v N ((l.map seg).map Proofs.encStr) ∧ Below w.heap.size w w' ∧ ∀ g, v.ownBlock = some g → w.heap.size ≤ g := by
  obtain ⟨i0, hi, hz0, hz1, hz2⟩ := info_parts info_str7
  have HR := Shut.mk hr
  have HLL := Shut.mk hl
  have HN := Shut.mk hN
  clear hr hl hN
  go_enter Tryz.func78, Tryz.ntmps78
  go_wp2_with fail
  go_loopw [3, 8] (fun u i wr => ∃ k : Nat, k ≤ N ∧ i = .int .i64 k ∧ Own wr 9 1 u k (((l.take k).map seg).map Proofs.encStr) ∧ Shut (∀ g, u.ownBlock = some g → w.heap.size ≤ g) ∧ Below w.heap.size w wr) (fun _ i _ => N - (intOf i).toNat)
  case atStart => exact ⟨0, Nat.zero_le _, rfl, Own.nil _ _ _, ⟨fun g hg => by cases hg⟩, Below.refl _ _⟩
  case round =>
    obtain ⟨k, hk, rfl, ho, hnw, hbr⟩ := hrel
    obtain ⟨A1, c1, rfl, _⟩ := ho.form
    have hsz := hbr.size
    by_cases hlt : k < N
    · have hkl : k < l.length := by rw [← HN.out]; exact hlt
      obtain ⟨a, hA, hc⟩ := HR.out (its_ne (fun e => by rw [e] at hkl; simp at hkl))
      subst hA
      have c0 := hc k _ (its_get hkl)
      have c2 := (hbr.cell (World.block_lt_of_cell? w _ c0)).trans c0
      obtain ⟨n, hn⟩ : ∃ n, n = l[k] := ⟨_, rfl⟩
      have hn9 : n ≤ 99999999 := by rw [hn]; exact HLL.out _ (List.getElem_mem _)
      rw [← hn] at c2
      have HN2 := Shut.mk hn
      have HO := Shut.mk ho
      have HB := Shut.mk hbr
      have hkI : (k : Int) < (N : Int) := by omega
      clear hc c0 hn ho hbr
      go_wp2_with fail
      refine (rname_calls n wr hn9).mono ?_
      rintro e w2 ⟨rfl, rfl⟩
      have ho2 := HO.out.alloc (.cells #[.string (segS n)] 9)
      have hs2 := HB.out.size
      go_wp2_with (at_builtin; refine wpList_append _ rfl _ _ _ rfl 9 i0 _ 1 16 Tryz.underlying51 hi hz0 hz1 hz2 rfl (by decide) _ _ _ rfl ho2 _ 1 1 _ rfl (by rfl) (rd_new _ #[.string (segS n)] 9) (by simp [Value.oneCell']) (by simp only [maxLen]; omega) (by omega) ?_; intro v6 w6 hap6)
      obtain ⟨g6, c6, rfl, _, _⟩ := hap6.own.head (by omega)
      go_roundw
      case rel =>
        have hbr' := HB.out.alloc hs2 (.cells #[.string (segS n)] 9)
        refine ⟨k + 1, by omega, by go_num, hap6.own.cast rfl ?_, ⟨new_append (by simp; omega) hnw.out hap6.lies⟩, hbr'.grown hap6.grown (by simp; omega) hnw.out⟩
        rw [List.take_succ_eq_append_getElem hkl, List.map_append, List.map_append, ← HN2.out]
        rfl
      case measure => first | (simp [intOf]; done) | (simp [intOf]; omega)
    · obtain rfl : k = N := by omega
      go_wp2_with fail
      go_ret
      refine ⟨_, rfl, ?_, hbr, hnw.out⟩
      rw [List.take_of_length_le (by rw [← HN.out]; exact Nat.le_refl _)] at ho
      exact ho
theorem dWr_1 {d : Ds} {ss : List Nat} {E : Int} {d1 : Ds} (h1 : (dApp d freshN (frm (manB ss))).1 = E) (h2 : (dApp d freshN (frm (manB ss))).2.2 = d1) (hE : ¬ E = 0) : dWr d ss = (E, (dDel d1 freshN).2) := by
  subst h1 h2
  have h3 : wrt3 d ss = ((dApp d freshN (frm (manB ss))).1, (dApp d freshN (frm (manB ss))).2.2) := if_pos hE
  unfold dWr
  rw [h3]
  exact if_neg hE
theorem dWr_2 {d : Ds} {ss : List Nat} {E : Int} {d1 d2 : Ds} (h1 : (dApp d freshN (frm (manB ss))).1 = 0) (h2 : (dApp d freshN (frm (manB ss))).2.2 = d1) (h3 : (dSync d1 freshN).1 = E) (h4 : (dSync d1 freshN).2 = d2) (hE : ¬ E = 0) : dWr d ss = (E, (dDel d2 freshN).2) := by
  subst h2 h3 h4
  have h5 : wrt3 d ss = dSync (dApp d freshN (frm (manB ss))).2.2 freshN := (if_neg (fun h => h h1)).trans (if_pos hE)
  unfold dWr
  rw [h5]
  exact if_neg hE
theorem dWr_3 {d : Ds} {ss : List Nat} {E : Int} {d1 d2 d3 : Ds} (h1 : (dApp d freshN (frm (manB ss))).1 = 0) (h2 : (dApp d freshN (frm (manB ss))).2.2 = d1) (h3 : (dSync d1 freshN).1 = 0) (h4 : (dSync d1 freshN).2 = d2) (h5 : (dRen d2 freshN manN).1 = E) (h6 : (dRen d2 freshN manN).2 = d3) : dWr d ss = if E = 0 then (0, d3) else (E, (dDel d3 freshN).2) := by
  subst h2 h4 h5 h6
  have h7 : wrt3 d ss = dRen (dSync (dApp d freshN (frm (manB ss))).2.2 freshN).2 freshN manN := (if_neg (fun h => h h1)).trans (if_neg (fun h => h h3))
  unfold dWr
  rw [h7]
set_option maxHeartbeats 4000000 in
theorem rman_calls (h : LX w gl gx M d (k + 2) l dead) (A : Option Addr) (c N : Nat) (ss : List Nat) (hr : Rd w A (its ss)) (hN : N = ss.length) (h1 : 1 ≤ N) (h2 : N ≤ 500) (h9 : ∀ n ∈ ss, n ≤ 99999999) :
    Calls Tryz.prog 75 #[gq gl, .slice A N c] w fun e w' => e = .returned (.int .i64 (dWr d ss).1) ∧ ∃ dead', LXS w w' gl gx M (dWr d ss).2 k l dead' := by
  obtain ⟨i0, hi, hz0, hz1, hz2⟩ := info_parts info_u8
  have q0 := h.c0
  have HR := Shut.mk hr
  have HLL := Shut.mk h9
  have HL := Shut.mk h
  have HN := Shut.mk hN
  clear hr h9 hN h
  go_enter Tryz.func75, Tryz.ntmps75
  go_wp2_with fail
  go_loopw [6, 17] (fun u i wr => ∃ k : Nat, k ≤ N ∧ i = .int .i64 k ∧ Own wr 5 1 u (8 * k) (bys (manB (ss.take k))) ∧ Shut (∀ g, u.ownBlock = some g → w.heap.size ≤ g) ∧ Below w.heap.size w wr) (fun _ i _ => N - (intOf i).toNat)
  case atStart => exact ⟨0, Nat.zero_le _, rfl, Own.nil _ _ _, ⟨fun g hg => by cases hg⟩, Below.refl _ _⟩
  case round =>
    obtain ⟨q, hq, rfl, ho, hnw, hbr⟩ := hrel
    obtain ⟨A1, c1, rfl, _⟩ := ho.form
    have hsz := hbr.size
    by_cases hlt : q < N
    · have hkl : q < ss.length := by rw [← HN.out]; exact hlt
      obtain ⟨a, hA, hc⟩ := HR.out (its_ne (fun e => by rw [e] at hkl; simp at hkl))
      subst hA
      have c0 := hc q _ (its_get hkl)
      have c2 := (hbr.cell (World.block_lt_of_cell? w _ c0)).trans c0
      obtain ⟨n, hn⟩ : ∃ n, n = ss[q] := ⟨_, rfl⟩
      have hn9 : n ≤ 99999999 := by rw [hn]; exact HLL.out _ (List.getElem_mem _)
      rw [← hn] at c2
      have HMS := Shut.mk (show manB (ss.take (q + 1)) = manB (ss.take q) ++ putl n 8 by rw [List.take_succ_eq_append_getElem hkl, hn]; unfold manB; rw [List.flatMap_append, List.flatMap_cons, List.flatMap_nil, List.append_nil])
      have HO2 := Shut.mk ho
      have HB := Shut.mk hbr
      have HNW := Shut.mk hnw.out
      have hkI : (q : Int) < (N : Int) := by omega
      have hbig := big_calls n 8 wr (by omega) (by omega) (by omega)
      have HBIG := Shut.mk hbig
      clear hc c0 hn ho hbr hkl hbig hnw
      go_wp2_with fail
      refine HBIG.out.mono ?_
      rintro e w2 ⟨v2, rfl, ho2, hb2, hn2⟩
      rw [putl_length] at ho2
      obtain ⟨A2, c2', rfl, hr2, _⟩ := ho2.form
      have HR2 := Shut.mk hr2
      have HO3 := Shut.mk (HO2.out.below hb2 (fun g hg => HO2.out.block_lt hg))
      have HB2 := Shut.mk (HB.out.trans (hb2.mono HB.out.size))
      have hl2 : (bys (putl n 8)).length = 8 * 1 := by rw [bys_length, putl_length]
      clear ho2 hb2 hn2 hr2
      go_wp2_with (at_builtin; refine wpList_append _ rfl _ _ _ rfl 5 i0 _ 1 1 Tryz.underlying27 hi hz0 hz1 hz2 rfl (by decide) _ _ _ rfl HO3.out _ 8 c2' _ rfl hl2 HR2.out (bys_one _) (by simp only [maxLen]; omega) (by omega) ?_; intro v3 w3 hap3)
      have hb03 := HB2.out.grown hap3.grown HB2.out.size HNW.out
      have hn3 := new_append HB2.out.size HNW.out hap3.lies
      have HO4 := Shut.mk (hap3.own.cast (show 8 * q + 8 = 8 * (q + 1) by omega) (by rw [← bys_append, ← HMS.out]))
      have HB4 := Shut.mk hb03
      have HN4 := Shut.mk hn3
      clear hap3 hb03 hn3
      go_roundw
      case rel => exact ⟨q + 1, by omega, by go_num, HO4.out, HN4, HB4.out⟩
      case measure => first | (simp [intOf]; done) | (simp [intOf]; omega)
    · obtain rfl : q = N := by omega
      rw [List.take_of_length_le (by rw [← HN.out]; exact Nat.le_refl _)] at ho
      have hml : (manB ss).length = 8 * q := by rw [manB_length, ← HN.out]
      have HFR := Shut.mk (rframe_calls A1 c1 (8 * q) (manB ss) wr (rdb_own _ ho) hml (by omega) (by omega))
      have hfl : (frm (manB ss)).length = 40 + 8 * q := by rw [frm_length, hml]
      have HFL := Shut.mk hfl
      have HLR := Shut.mk (HL.out.quiet hbr)
      have HK0 : Shut (Kb w wr M ∧ ∀ x ∈ M, x ∈ M ∨ w.heap.size ≤ x) := ⟨Kb.of_below hbr M, fun x hx => .inl hx⟩
      clear ho hml hfl hbr hnw hsz
      go_wp2_with fail
      refine HFR.out.mono ?_
      rintro e w3 ⟨v3, rfl, ho3, hb3, hn3⟩
      obtain ⟨A3, c3, rfl, _, hcc3, _⟩ := ho3.form
      obtain ⟨E1, hE1⟩ : ∃ E1, (dApp d freshN (frm (manB ss))).1 = E1 := ⟨_, rfl⟩
      obtain ⟨n1, hn1⟩ : ∃ n1, (dApp d freshN (frm (manB ss))).2.1 = n1 := ⟨_, rfl⟩
      obtain ⟨d1, hd1⟩ : ∃ d1, (dApp d freshN (frm (manB ss))).2.2 = d1 := ⟨_, rfl⟩
      have hap := lx_append (k := k + 1) (HLR.out.quiet hb3) ⟨#[109, 97, 110, 105, 102, 101, 115, 116, 46, 110, 101, 119]⟩ A3 (40 + 8 * q) c3 (frm (manB ss)) (by unfold reach; decide) (rdb_own _ ho3) HFL.out hcc3 (by unfold reach; omega)
      rw [show (ByteArray.mk #[109, 97, 110, 105, 102, 101, 115, 116, 46, 110, 101, 119]).data.toList = freshN from rfl, hE1, hn1, hd1] at hap
      have HAP := Shut.mk hap
      have HK3 := Shut.mk (lkquiet HK0.out hb3)
      have HE1 := Shut.mk hE1
      have HD1 := Shut.mk hd1
      clear hap ho3 hb3 hn3 hE1 hn1 hd1
      by_cases hE : E1 = 0
      · subst hE
        go_wp2_with fail
        refine HAP.out.mono ?_
        rintro e w4 ⟨rfl, M4, hL4, hk4, hs4⟩
        obtain ⟨E2, hE2⟩ : ∃ E2, (dSync d1 freshN).1 = E2 := ⟨_, rfl⟩
        obtain ⟨d2, hd2⟩ : ∃ d2, (dSync d1 freshN).2 = d2 := ⟨_, rfl⟩
        have hsy := lx_sync hL4 ⟨#[109, 97, 110, 105, 102, 101, 115, 116, 46, 110, 101, 119]⟩
        rw [show (ByteArray.mk #[109, 97, 110, 105, 102, 101, 115, 116, 46, 110, 101, 119]).data.toList = freshN from rfl, hE2, hd2] at hsy
        have HSY := Shut.mk hsy
        have HK4 := Shut.mk (lkstep HK3.out (And.intro hk4 hs4))
        have HE2 := Shut.mk hE2
        have HD2 := Shut.mk hd2
        clear hL4 hk4 hs4 hsy hE2 hd2
        by_cases hE : E2 = 0
        · subst hE
          go_wp2_with fail
          refine HSY.out.mono ?_
          rintro e w5 ⟨rfl, M5, hL5, hk5, hs5⟩
          obtain ⟨E3, hE3⟩ : ∃ E3, (dRen d2 freshN manN).1 = E3 := ⟨_, rfl⟩
          obtain ⟨d3, hd3⟩ : ∃ d3, (dRen d2 freshN manN).2 = d3 := ⟨_, rfl⟩
          have hrn := lx_rename (k := k) hL5 ⟨#[109, 97, 110, 105, 102, 101, 115, 116, 46, 110, 101, 119]⟩ ⟨#[109, 97, 110, 105, 102, 101, 115, 116]⟩ (by unfold reach; decide)
          rw [show (ByteArray.mk #[109, 97, 110, 105, 102, 101, 115, 116, 46, 110, 101, 119]).data.toList = freshN from rfl, show (ByteArray.mk #[109, 97, 110, 105, 102, 101, 115, 116]).data.toList = manN from rfl, hE3, hd3] at hrn
          have HRN := Shut.mk hrn
          have HK5 := Shut.mk (lkstep HK4.out (And.intro hk5 hs5))
          have hw := dWr_3 (ss := ss) HE1.out HD1.out HE2.out HD2.out hE3 hd3
          clear hL5 hk5 hs5 hrn hE3 hd3
          by_cases hE : E3 = 0
          · have HW := Shut.mk (hw.trans (if_pos hE))
            clear hw
            subst hE
            go_wp2_with fail
            refine HRN.out.mono ?_
            rintro e w6 ⟨rfl, M6, hL6, hk6, hs6⟩
            have HK6 := Shut.mk (lkstep HK5.out (And.intro hk6 hs6))
            have HL6 := Shut.mk hL6
            clear hL6 hk6 hs6
            go_wp2_with fail
            refine (rdid_calls HL6.out _).mono ?_
            rintro e w22 ⟨rfl, dead22, M22, hL22, hk22, hs22⟩
            have HL22 := Shut.mk hL22
            have HKK2 := Shut.mk (lkstep HK6.out (And.intro hk22 hs22))
            clear hL22 hk22 hs22
            go_wp2_with fail
            go_ret
            refine ⟨by rw [HW.out]; rfl, dead22, M22, ?_, HKK2.out.1, HKK2.out.2⟩
            rw [HW.out]
            exact HL22.out
          · have HW := Shut.mk (hw.trans (if_neg hE))
            clear hw
            go_wp2_with fail
            refine HRN.out.mono ?_
            rintro e w6 ⟨rfl, M6, hL6, hk6, hs6⟩
            have HK6 := Shut.mk (lkstep HK5.out (And.intro hk6 hs6))
            have HL6 := Shut.mk hL6
            clear hL6 hk6 hs6
            go_wp2_with fail
            refine ((lx_remove HL6.out ⟨#[109, 97, 110, 105, 102, 101, 115, 116, 46, 110, 101, 119]⟩).mono ?_)
            rintro e w20 ⟨rfl, hst20⟩
            obtain ⟨M20, hL20, hk20, hs20⟩ := hst20
            go_wp2_with fail
            refine (rdid_calls hL20 _).mono ?_
            rintro e w21 ⟨rfl, dead21, M21, hL21, hk21, hs21⟩
            have hkk := lkstep (And.intro hk20 hs20) (And.intro hk21 hs21)
            have HL21 := Shut.mk hL21
            have HKK := Shut.mk (lkstep HK6.out hkk)
            clear hL20 hk20 hs20 hL21 hk21 hs21 hkk
            go_wp2_with fail
            refine (rdid_calls HL21.out _).mono ?_
            rintro e w22 ⟨rfl, dead22, M22, hL22, hk22, hs22⟩
            have HL22 := Shut.mk hL22
            have HKK2 := Shut.mk (lkstep HKK.out (And.intro hk22 hs22))
            clear hL22 hk22 hs22
            go_wp2_with fail
            go_ret
            refine ⟨by rw [HW.out]; rfl, dead22, M22, ?_, HKK2.out.1, HKK2.out.2⟩
            rw [HW.out]
            exact HL22.out.mono (by omega)
        · have HW := Shut.mk (dWr_2 (ss := ss) HE1.out HD1.out HE2.out HD2.out hE)
          go_wp2_with fail
          refine HSY.out.mono ?_
          rintro e w5 ⟨rfl, M5, hL5, hk5, hs5⟩
          have HK6 := Shut.mk (lkstep HK4.out (And.intro hk5 hs5))
          have HL6 := Shut.mk hL5
          clear hL5 hk5 hs5
          go_wp2_with fail
          refine ((lx_remove HL6.out ⟨#[109, 97, 110, 105, 102, 101, 115, 116, 46, 110, 101, 119]⟩).mono ?_)
          rintro e w20 ⟨rfl, hst20⟩
          obtain ⟨M20, hL20, hk20, hs20⟩ := hst20
          go_wp2_with fail
          refine (rdid_calls hL20 _).mono ?_
          rintro e w21 ⟨rfl, dead21, M21, hL21, hk21, hs21⟩
          have hkk := lkstep (And.intro hk20 hs20) (And.intro hk21 hs21)
          have HL21 := Shut.mk hL21
          have HKK := Shut.mk (lkstep HK6.out hkk)
          clear hL20 hk20 hs20 hL21 hk21 hs21 hkk
          go_wp2_with fail
          refine (rdid_calls HL21.out _).mono ?_
          rintro e w22 ⟨rfl, dead22, M22, hL22, hk22, hs22⟩
          have HL22 := Shut.mk hL22
          have HKK2 := Shut.mk (lkstep HKK.out (And.intro hk22 hs22))
          clear hL22 hk22 hs22
          go_wp2_with fail
          go_ret
          refine ⟨by rw [HW.out]; rfl, dead22, M22, ?_, HKK2.out.1, HKK2.out.2⟩
          rw [HW.out]
          exact HL22.out.mono (by omega)
      · have HW := Shut.mk (dWr_1 (ss := ss) HE1.out HD1.out hE)
        go_wp2_with fail
        refine HAP.out.mono ?_
        rintro e w4 ⟨rfl, M4, hL4, hk4, hs4⟩
        have HK6 := Shut.mk (lkstep HK3.out (And.intro hk4 hs4))
        have HL6 := Shut.mk hL4
        clear hL4 hk4 hs4
        go_wp2_with fail
        refine ((lx_remove HL6.out ⟨#[109, 97, 110, 105, 102, 101, 115, 116, 46, 110, 101, 119]⟩).mono ?_)
        rintro e w20 ⟨rfl, hst20⟩
        obtain ⟨M20, hL20, hk20, hs20⟩ := hst20
        go_wp2_with fail
        refine (rdid_calls hL20 _).mono ?_
        rintro e w21 ⟨rfl, dead21, M21, hL21, hk21, hs21⟩
        have hkk := lkstep (And.intro hk20 hs20) (And.intro hk21 hs21)
        have HL21 := Shut.mk hL21
        have HKK := Shut.mk (lkstep HK6.out hkk)
        clear hL20 hk20 hs20 hL21 hk21 hs21 hkk
        go_wp2_with fail
        refine (rdid_calls HL21.out _).mono ?_
        rintro e w22 ⟨rfl, dead22, M22, hL22, hk22, hs22⟩
        have HL22 := Shut.mk hL22
        have HKK2 := Shut.mk (lkstep HKK.out (And.intro hk22 hs22))
        clear hL22 hk22 hs22
        go_wp2_with fail
        go_ret
        refine ⟨by rw [HW.out]; rfl, dead22, M22, ?_, HKK2.out.1, HKK2.out.2⟩
        rw [HW.out]
        exact HL22.out.mono (by omega)
theorem rrem_calls (h : LX w gl gx M d k l dead) (A : Option Addr) (c N : Nat) (ss : List Nat) (hr : Rd w A (its ss)) (hA : ∀ a, A = some a → ss ≠ [] → a.block ∉ M ∧ a.block < w.heap.size) (hN : N = ss.length) (h9 : ∀ n ∈ ss, n ≤ 99999999) (hm : N ≤ 1000) :
    Calls Tryz.prog 113 #[gq gl, .slice A N c] w fun e w' => e = .returned (.int .i64 (lRem d ss).1) ∧ ∃ dead', LXS w w' gl gx M (lRem d ss).2 k l dead' := by
  have HR := Shut.mk hr
  have HA := Shut.mk hA
  have HLL := Shut.mk h9
  have HL := Shut.mk h
  have HN := Shut.mk hN
  clear hr hA h9 hN h
  go_enter Tryz.func113, Tryz.ntmps113
  go_wp2_with fail
  go_loopw [10] (fun i wr => ∃ q : Nat, q ≤ N ∧ i = .int .i64 q ∧ Shut (∃ dk deadk, LXS w wr gl gx M dk k l deadk ∧ lRem d ss = lRem dk (ss.drop q))) (fun i _ => N - (intOf i).toNat)
  case atStart => exact ⟨0, Nat.zero_le _, rfl, ⟨d, dead, LXS.same HL.out, rfl⟩⟩
  case round =>
    obtain ⟨q, hq, rfl, HST⟩ := hrel
    obtain ⟨dk, deadk, ⟨M1, hL1, hk1, hs1⟩, hrem⟩ := HST.out
    have HL1 := Shut.mk hL1
    have HK1 := Shut.mk (And.intro hk1 hs1)
    have HRM := Shut.mk hrem
    clear HST hL1 hs1 hrem
    by_cases hlt : q < N
    · have hkl : q < ss.length := by rw [← HN.out]; exact hlt
      obtain ⟨a, hA, hc⟩ := HR.out (its_ne (fun e => by rw [e] at hkl; simp at hkl))
      subst hA
      have hne : ss ≠ [] := fun e => by rw [e] at hkl; simp at hkl
      have c0 := hc q _ (its_get hkl)
      have c2 := (World.cell?_of_block (w := w) (hk1.block _ (World.block_lt_of_cell? w _ c0) (fun hx => (HA.out a rfl hne).1 (by rwa [block_of_add] at hx)))).trans c0
      obtain ⟨n, hn⟩ : ∃ n, n = ss[q] := ⟨_, rfl⟩
      have hn9 : n ≤ 99999999 := by rw [hn]; exact HLL.out _ (List.getElem_mem _)
      rw [← hn] at c2
      have HDR : Shut (ss.drop q = n :: ss.drop (q + 1)) := ⟨by rw [List.drop_eq_getElem_cons hkl, hn]⟩
      have hkI : (q : Int) < (N : Int) := by omega
      have s0 := HL1.out.c0
      have HLS := Shut.mk (lx_list HL1.out)
      have hlen1 := lsD_len HL1.out
      clear hc c0 hn hkl hne hk1
      go_wp2_with fail
      refine HLS.out.mono ?_
      rintro e w2 ⟨v2, rfl, ho2, hb2, _⟩
      have HL2 := Shut.mk (HL1.out.quiet hb2)
      have HK2 := Shut.mk (lkquiet HK1.out hb2)
      have HO2 := Shut.mk ho2
      clear ho2 hb2 s0
      go_wp2_with fail
      refine (rname_calls n w2 hn9).mono ?_
      rintro e wx ⟨rfl, rfl⟩
      go_wp2_with fail
      refine (rhas_calls v2 (lsD dk) _ (segS n) _ HO2.out rfl (by omega)).mono ?_
      rintro e wx ⟨rfl, rfl⟩
      rw [segS_list, mem_look]
      by_cases hlk : (look dk.S (seg n)).isSome = true
      · rw [hlk]
        obtain ⟨E3, hE3⟩ : ∃ E3, (dDel dk (seg n)).1 = E3 := ⟨_, rfl⟩
        obtain ⟨d3, hd3⟩ : ∃ d3, (dDel dk (seg n)).2 = d3 := ⟨_, rfl⟩
        have HRV : Shut (∀ w0, LX w0 gl gx M1 dk k l deadk → Calls Tryz.prog 31 #[gq gx, .string (segS n)] w0 fun e w' => e = .returned (.int .i64 E3) ∧ LXS w0 w' gl gx M1 d3 k l deadk) := ⟨fun w0 h0 => by
          have := lx_remove h0 (segS n)
          rw [segS_list, hE3, hd3] at this
          exact this⟩
        have HRR : Shut (lRem d ss = if E3 = 0 then lRem d3 (ss.drop (q + 1)) else (E3, d3)) := ⟨by
          rw [HRM.out, HDR.out, ← hE3, ← hd3]
          exact if_pos hlk⟩
        have s0 := HL2.out.c0
        obtain ⟨W2, hW2⟩ : ∃ W2, W2 = w2 := ⟨_, rfl⟩
        rw [← hW2] at HL2 HK2 s0 ⊢
        have HF : Shut (Calls Tryz.prog 101 #[.int .i64 (n : Int)] W2.drew fun e w' => e = .returned (.string (segS n)) ∧ Below W2.heap.size W2.drew w') := ⟨(rname_calls n W2.drew hn9).mono fun e w' ⟨he, hw⟩ => ⟨he, hw ▸ Below.refl _ _⟩⟩
        clear hE3 hd3 hlk hW2
        go_wp2_with fail
        go_region_held3 (fun w' => w'.cell? ⟨gl, 0, none⟩ = some (gq gx)) (first | exact s0 | exact t0 | exact t1 | exact t2 | go_keep)
          (first
            | (go_at_call 101; refine HF.out.mono ?_; rintro e w4 ⟨rfl, hb4⟩; have HL4 := Shut.mk (HL2.out.quiet (below_drewR (w := W2) hb4)); have t0 := HL4.out.c0; have HB4 := Shut.mk (below_drewR (w := W2) hb4); clear hb4)
            | (go_at_call 31; refine (HRV.out _ HL4.out).mono ?_; rintro e w5 ⟨rfl, M5, hL5, hk5, hs5⟩; have HL5 := Shut.mk hL5; have t1 := HL5.out.c0; have HK5 := Shut.mk (And.intro hk5 hs5); clear hL5 hk5 hs5)
            | (go_at_call 99; refine (rdid_calls HL5.out _).mono ?_; rintro e w6 ⟨rfl, dead6, M6, hL6, hk6, hs6⟩; have HL6 := Shut.mk hL6; have t2 := HL6.out.c0; have HK6 := Shut.mk (And.intro hk6 hs6); clear hL6 hk6 hs6))
        clear s0 t0 t1 t2
        have hkk := lkstep (lkstep (lkquiet HK2.out HB4.out) HK5.out) HK6.out
        have HKK := Shut.mk hkk
        clear hkk
        by_cases hE : E3 = 0
        · have HRR2 := Shut.mk (HRR.out.trans (if_pos hE))
          clear HRR
          subst hE
          have HS2 : Shut (∃ dk deadk, LXS w w6 gl gx M dk k l deadk ∧ lRem d ss = lRem dk (ss.drop (q + 1))) := ⟨d3, dead6, ⟨M6, HL6.out, HKK.out.1, HKK.out.2⟩, HRR2.out⟩
          go_wp2_with fail
          go_roundw
          case rel => exact ⟨q + 1, by omega, by go_num, HS2⟩
          case measure => first | (simp [intOf]; done) | (simp [intOf]; omega)
        · have HRR2 := Shut.mk (HRR.out.trans (if_neg hE))
          clear HRR
          go_wp2_with fail
          go_ret
          rw [HRR2.out]
          exact ⟨rfl, dead6, M6, HL6.out, HKK.out.1, HKK.out.2⟩
      · have HRR : Shut (lRem d ss = lRem dk (ss.drop (q + 1))) := ⟨by
          rw [HRM.out, HDR.out]
          exact if_neg hlk⟩
        rw [Bool.not_eq_true] at hlk
        rw [hlk]
        have HS2 : Shut (∃ dk deadk, LXS w w2 gl gx M dk k l deadk ∧ lRem d ss = lRem dk (ss.drop (q + 1))) := ⟨dk, deadk, ⟨M1, HL2.out, HK2.out.1, HK2.out.2⟩, HRR.out⟩
        clear hlk
        go_wp2_with fail
        go_roundw
        case rel => exact ⟨q + 1, by omega, by go_num, HS2⟩
        case measure => first | (simp [intOf]; done) | (simp [intOf]; omega)
    · obtain rfl : q = N := by omega
      have HEND : Shut (lRem d ss = (0, dk)) := ⟨by
        rw [HRM.out, List.drop_of_length_le (by rw [← HN.out]; exact Nat.le_refl _)]
        rfl⟩
      clear hk1
      go_wp2_with fail
      go_ret
      rw [HEND.out]
      exact ⟨rfl, deadk, M1, HL1.out, HK1.out.1, HK1.out.2⟩
end
end Go.Proofs.YtmlfeljhojmbbaaGreatDoor
