/- The disk as a machine: each call as a function of the disk's state, whatever the state; the call does what the function says. -/
import Derived.Test.YtmlfeljhojmbbaaGreatDoorNew2
namespace Go.Proofs.YtmlfeljhojmbbaaGreatDoor
open Go.RowKit Go.Maps
set_option linter.unusedSimpArgs false
set_option linter.unusedVariables false
set_option maxRecDepth 100000

/-- a disk: its files, how often its map was written, its room, its Short, its fuse -/
structure Ds where
  S : List Fl
  n : Nat
  room : Int
  short : Int
  fuse : Int
structure Ds.Ok (d : Ds) : Prop where
  n : d.n < 900000000
  r0 : 0 ≤ d.room
  r1 : d.room ≤ 1099511627776
  s0 : -1 ≤ d.short
  s1 : d.short ≤ 9223372036854775807
  f0 : -1 ≤ d.fuse
  f1 : d.fuse ≤ 9223372036854775807
def Ds.burn (d : Ds) (ok : Bool) : Ds := { d with fuse := chFuse ok d.fuse }
def dApp (d : Ds) (s b : List UInt8) : Int × Nat × Ds :=
  if chErr (nameOk s) d.fuse ≠ 0 then (chErr (nameOk s) d.fuse, 0, d.burn (nameOk s))
  else if 1048576 < lenF d.S s + appLen d.short b.length ∨ d.room < used d.S + appLen d.short b.length then (4, 0, { d.burn true with n := d.n + 1, short := -1 })
  else (if appLen d.short b.length < b.length then 61 else 0, appLen d.short b.length, { d.burn true with n := d.n + 1, short := -1, S := addF d.S s (b.take (appLen d.short b.length)) })
def dSync (d : Ds) (s : List UInt8) : Int × Ds :=
  if d.fuse = 0 then (62, d) else
  match look d.S s with
  | none => (60, d.burn true)
  | some (b, _) => (0, { d.burn true with S := setF d.S s b b.length })
def dDel (d : Ds) (s : List UInt8) : Int × Ds :=
  if d.fuse = 0 then (62, d) else
  match look d.S s with
  | none => (60, d.burn true)
  | some _ => (0, { d.burn true with S := delF d.S s })
def dRen (d : Ds) (a z : List UInt8) : Int × Ds :=
  if chErr (nameOk z) d.fuse ≠ 0 then (chErr (nameOk z) d.fuse, d.burn (nameOk z)) else
  match look d.S a with
  | none => (60, d.burn true)
  | some (b, sy) => (0, { d.burn true with n := d.n + 1, S := renF d.S a z b sy })
def cutOk (d : Ds) (s : List UInt8) (k : Int) : Bool :=
  match look d.S s with
  | none => decide (0 ≤ k)
  | some (b, _) => decide (0 ≤ k ∧ k ≤ b.length)
def dCut (d : Ds) (s : List UInt8) (k : Int) : Int × Ds :=
  if chErr (cutOk d s k) d.fuse ≠ 0 then (chErr (cutOk d s k) d.fuse, d.burn (cutOk d s k)) else
  match look d.S s with
  | none => (60, d.burn true)
  | some (b, sy) => (0, { d.burn true with S := setF d.S s (b.take k.toNat) (min sy k.toNat) })
def dShort (d : Ds) (x : Int) : Int × Ds := if x < 0 then (1, d) else (0, { d with short := x })
def dRoom (d : Ds) (x : Int) : Int × Ds := if x < 0 ∨ 1099511627776 < x then (1, d) else (0, { d with room := x })
def dFuse (d : Ds) (x : Int) : Int × Ds := if x < 0 then (1, d) else (0, { d with fuse := x })
def dCrash (d : Ds) (tl : List Tl) : Ds := { d with S := crashF (fun s => (tailOf tl s).getD zeroT) d.S, short := -1, fuse := -1 }

theorem chFuse_range {ok : Bool} {f : Int} (h0 : -1 ≤ f) (h1 : f ≤ 9223372036854775807) : -1 ≤ chFuse ok f ∧ chFuse ok f ≤ 9223372036854775807 := by
  unfold chFuse
  split <;> omega
def DD (w : World) (gd : Nat) (F : List Nat) (d : Ds) : Prop := Dsk w gd F d.n d.S d.room d.short d.fuse
def DStp (w w' : World) (gd : Nat) (F : List Nat) (d : Ds) : Prop := Stp w w' gd F d.n d.S d.room d.short d.fuse
section
variable {w w' : World} {gd : Nat} {F : List Nat} {d : Ds}
theorem DStp.same (h : DD w gd F d) : DStp w w gd F d := ⟨F, h, Kb.refl _ _, fun x hx => .inl hx⟩
theorem DStp.quiet (h : DD w gd F d) (hb : Below w.heap.size w w') : DStp w w' gd F d := ⟨F, Dsk.below h hb, Kb.of_below hb _, fun x hx => .inl hx⟩
theorem DStp.trans {w'' : World} {F' : List Nat} {d' d'' : Ds} (h1 : DD w' gd F' d') (h2 : Kb w w' F) (h3 : ∀ x ∈ F', x ∈ F ∨ w.heap.size ≤ x) (h : DStp w' w'' gd F' d'') : DStp w w'' gd F d'' := by
  obtain ⟨F2, a1, a2, a3⟩ := h
  exact ⟨F2, a1, h2.trans a2 h3, fun x hx => (a3 x hx).elim (h3 x) fun h => .inr (Nat.le_trans h2.size h)⟩
theorem chErr_cases (ok : Bool) (f : Int) : chErr ok f = 0 ∨ chErr ok f = 1 ∨ chErr ok f = 62 := by
  unfold chErr
  split
  · split <;> simp
  · simp
theorem chErr_true {f : Int} (h : f ≠ 0) : chErr true f = 0 := by simp [chErr, h]
theorem chErr_ok {ok : Bool} {f : Int} (h : chErr ok f = 0) : ok = true ∧ f ≠ 0 := by
  unfold chErr at h
  cases ok
  · simp at h
  · simp at h
    exact ⟨rfl, h⟩
theorem dd_append (h : DD w gd F d) (ho : d.Ok) (s : ByteArray) (A : Option Addr) (m c : Nat) (b : List UInt8) (hs : s.size ≤ reach) (hr : RdB w A b) (hm : b.length = m) (hmc : m ≤ c) (hml : m ≤ reach) :
    Calls Tryz.prog 21 #[gp gd, .string s, .slice A m c] w fun e w' => e = .returned (.tuple #[.int .i64 ((dApp d s.data.toList b).2.1 : Int), .int .i64 (dApp d s.data.toList b).1]) ∧ DStp w w' gd F (dApp d s.data.toList b).2.2 := by
  subst hm
  unfold dApp
  by_cases h1 : chErr (nameOk s.data.toList) d.fuse = 0
  · rw [if_neg (by simpa using h1)]
    obtain ⟨hok, hf⟩ := chErr_ok h1
    refine (dk_append h s A b.length c b hs (by have := ho.f0; omega) ho.f1 hok hf hr rfl hmc hml (by have := ho.n; omega) ho.r0 ho.r1 ho.s0 ho.s1).mono ?_
    rintro e w' ⟨hA, hB⟩
    by_cases h2 : 1048576 < lenF d.S s.data.toList + appLen d.short b.length ∨ d.room < used d.S + appLen d.short b.length
    · rw [if_pos h2]
      obtain ⟨h3, h4⟩ := hA h2
      exact ⟨h3, h4⟩
    · rw [if_neg h2]
      obtain ⟨h3, h4⟩ := hB h2
      exact ⟨h3, h4⟩
  · rw [if_pos h1]
    exact (dk_append_stop h s A b.length c hs (by have := ho.f0; omega) ho.f1 h1).mono fun e w' ⟨h3, h4⟩ => ⟨h3, h4⟩
theorem dd_sync (h : DD w gd F d) (ho : d.Ok) (s : ByteArray) (hs : s.size ≤ reach) :
    Calls Tryz.prog 24 #[gp gd, .string s] w fun e w' => e = .returned (.int .i64 (dSync d s.data.toList).1) ∧ DStp w w' gd F (dSync d s.data.toList).2 := by
  obtain ⟨gm, es, hD, hS, hF⟩ := h
  unfold dSync
  by_cases h1 : d.fuse = 0
  · rw [if_pos h1]
    rw [h1] at hD
    refine (sync_stop hD s rfl).mono ?_
    rintro e w' ⟨rfl, hA⟩
    refine ⟨rfl, ?_⟩
    show Stp w w' gd F d.n d.S d.room d.short d.fuse
    rw [← hS, h1]
    exact Stp.of_after hA hF
  · rw [if_neg h1]
    cases hx : look d.S s.data.toList with
    | none =>
      rw [← hS] at hx
      refine (sync_none hD s hs (by have := ho.f0; omega) ho.f1 h1 (look_fls_none hx)).mono ?_
      rintro e w' ⟨rfl, hA⟩
      refine ⟨rfl, ?_⟩
      show Stp w w' gd F d.n d.S d.room d.short _
      rw [← hS]
      exact Stp.of_after hA hF
    | some p =>
      obtain ⟨b, sy⟩ := p
      rw [← hS] at hx
      obtain ⟨x, h2, rfl, h3⟩ := look_fls hx
      refine (sync_some hD s hs (by have := ho.f0; omega) ho.f1 h1 h2).mono ?_
      rintro e w' ⟨rfl, hA⟩
      refine ⟨rfl, ?_⟩
      show Stp w w' gd F d.n (setF d.S _ _ _) d.room d.short _
      rw [← hS]
      exact Stp.of_after hA hF
theorem dd_remove (h : DD w gd F d) (ho : d.Ok) (s : ByteArray) (hs : s.size ≤ reach) :
    Calls Tryz.prog 30 #[gp gd, .string s] w fun e w' => e = .returned (.int .i64 (dDel d s.data.toList).1) ∧ DStp w w' gd F (dDel d s.data.toList).2 := by
  obtain ⟨gm, es, hD, hS, hF⟩ := h
  unfold dDel
  by_cases h1 : d.fuse = 0
  · rw [if_pos h1]
    rw [h1] at hD
    refine (remove_stop hD s rfl).mono ?_
    rintro e w' ⟨rfl, hA⟩
    refine ⟨rfl, ?_⟩
    show Stp w w' gd F d.n d.S d.room d.short d.fuse
    rw [← hS, h1]
    exact Stp.of_after hA hF
  · rw [if_neg h1]
    cases hx : look d.S s.data.toList with
    | none =>
      rw [← hS] at hx
      refine (remove_none hD s hs (by have := ho.f0; omega) ho.f1 h1 (look_fls_none hx)).mono ?_
      rintro e w' ⟨rfl, hA⟩
      refine ⟨rfl, ?_⟩
      show Stp w w' gd F d.n d.S d.room d.short _
      rw [← hS]
      exact Stp.of_after hA hF
    | some p =>
      obtain ⟨b, sy⟩ := p
      rw [← hS] at hx
      obtain ⟨x, h2, rfl, h3⟩ := look_fls hx
      refine (remove_some hD s hs (by have := ho.f0; omega) ho.f1 h1 h2).mono ?_
      rintro e w' ⟨rfl, hA⟩
      refine ⟨rfl, ?_⟩
      show Stp w w' gd F d.n (delF d.S _) d.room d.short _
      rw [← hS]
      exact Stp.of_after hA hF
theorem dd_rename (h : DD w gd F d) (ho : d.Ok) (s t : ByteArray) (hs : s.size ≤ reach) (ht : t.size ≤ reach) :
    Calls Tryz.prog 28 #[gp gd, .string s, .string t] w fun e w' => e = .returned (.int .i64 (dRen d s.data.toList t.data.toList).1) ∧ DStp w w' gd F (dRen d s.data.toList t.data.toList).2 := by
  obtain ⟨gm, es, hD, hS, hF⟩ := h
  unfold dRen
  by_cases h1 : chErr (nameOk t.data.toList) d.fuse = 0
  · rw [if_neg (by simpa using h1)]
    obtain ⟨hok, hf⟩ := chErr_ok h1
    cases hx : look d.S s.data.toList with
    | none =>
      rw [← hS] at hx
      refine (rename_none hD s t hs ht (by have := ho.f0; omega) ho.f1 hf hok (look_fls_none hx)).mono ?_
      rintro e w' ⟨rfl, hA⟩
      refine ⟨rfl, ?_⟩
      show Stp w w' gd F d.n d.S d.room d.short _
      rw [← hS]
      exact Stp.of_after hA hF
    | some p =>
      obtain ⟨b, sy⟩ := p
      rw [← hS] at hx
      obtain ⟨x, h2, rfl, rfl⟩ := look_fls hx
      refine (rename_some hD s t hs ht (by have := ho.f0; omega) ho.f1 hf hok (by have := ho.n; omega) h2).mono ?_
      rintro e w' ⟨rfl, hA⟩
      refine ⟨rfl, ?_⟩
      show Stp w w' gd F (d.n + 1) (renF d.S _ _ _ _) d.room d.short _
      rw [← hS]
      exact Stp.of_after hA hF
  · rw [if_pos h1]
    refine (rename_stop hD s t ht (by have := ho.f0; omega) ho.f1 h1).mono ?_
    rintro e w' ⟨rfl, hA⟩
    refine ⟨rfl, ?_⟩
    show Stp w w' gd F d.n d.S d.room d.short _
    rw [← hS]
    exact Stp.of_after hA hF
theorem dd_cut (h : DD w gd F d) (ho : d.Ok) (s : ByteArray) (k : Int) (hs : s.size ≤ reach) :
    Calls Tryz.prog 26 #[gp gd, .string s, .int .i64 k] w fun e w' => e = .returned (.int .i64 (dCut d s.data.toList k).1) ∧ DStp w w' gd F (dCut d s.data.toList k).2 := by
  obtain ⟨gm, es, hD, hS, hF⟩ := h
  have f0 : -9223372036854775808 ≤ d.fuse := by have := ho.f0; omega
  unfold dCut cutOk
  cases hx : look d.S s.data.toList with
  | none =>
    have hn := hx
    rw [← hS] at hx
    simp only []
    refine (cut_stop_none hD s k hs f0 ho.f1 (look_fls_none hx)).mono ?_
    rintro e w' ⟨rfl, hA⟩
    have hst := Stp.of_after hA hF
    rw [hS] at hst
    by_cases h1 : chErr (decide (0 ≤ k)) d.fuse = 0
    · obtain ⟨hok, _⟩ := chErr_ok h1
      rw [if_pos h1, if_neg (by simpa using h1)]
      rw [hok] at hst
      exact ⟨rfl, hst⟩
    · rw [if_neg h1, if_pos h1]
      exact ⟨rfl, hst⟩
  | some p =>
    obtain ⟨b, sy⟩ := p
    rw [← hS] at hx
    obtain ⟨x, h2, rfl, rfl⟩ := look_fls hx
    simp only []
    by_cases h1 : chErr (decide (0 ≤ k ∧ k ≤ x.b.length)) d.fuse = 0
    · rw [if_neg (by simpa using h1)]
      obtain ⟨hok, hf⟩ := chErr_ok h1
      have hk := of_decide_eq_true hok
      obtain ⟨j, rfl⟩ : ∃ j : Nat, k = (j : Int) := ⟨k.toNat, by omega⟩
      refine (cut_some hD s j hs f0 ho.f1 hf h2 (by omega)).mono ?_
      rintro e w' ⟨rfl, hA⟩
      refine ⟨rfl, ?_⟩
      have hst := Stp.of_after hA hF
      rw [hS] at hst
      exact hst
    · rw [if_pos h1]
      refine (cut_stop_some hD s k hs f0 ho.f1 h2 h1).mono ?_
      rintro e w' ⟨rfl, hA⟩
      refine ⟨rfl, ?_⟩
      have hst := Stp.of_after hA hF
      rw [hS] at hst
      exact hst
theorem dd_read (h : DD w gd F d) (s : ByteArray) (hs : s.size ≤ reach) : Calls Tryz.prog 40 #[gp gd, .string s] w fun e w' =>
    ∃ A c, e = .returned (.tuple #[.slice A (((look d.S s.data.toList).map (·.1)).getD []).length c, .int .i64 (if (look d.S s.data.toList).isSome then 0 else 60)]) ∧ Own w' 5 1 (.slice A (((look d.S s.data.toList).map (·.1)).getD []).length c) (((look d.S s.data.toList).map (·.1)).getD []).length (bys (((look d.S s.data.toList).map (·.1)).getD [])) ∧ Below w.heap.size w w' ∧ ∀ g, (Value.slice A (((look d.S s.data.toList).map (·.1)).getD []).length c).ownBlock = some g → w.heap.size ≤ g := by
  cases hx : look d.S s.data.toList with
  | none =>
    refine (dk_read_none h s hs hx).mono ?_
    rintro e w' ⟨rfl, rfl⟩
    exact ⟨none, 0, rfl, Own.nil _ _ _, Below.refl _ _, fun g hg => by cases hg⟩
  | some p =>
    obtain ⟨b, sy⟩ := p
    refine (dk_read h s hs hx).mono ?_
    rintro e w' ⟨v, rfl, ho, hb, hv⟩
    obtain ⟨A, c, rfl, _⟩ := ho.rdB
    exact ⟨A, c, rfl, ho, hb, hv⟩
end
end Go.Proofs.YtmlfeljhojmbbaaGreatDoor
