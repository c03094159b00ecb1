/- The disk's calls in the words of its files alone: names, bytes, how many are synced. -/
import Derived.Test.YtmlfeljhojmbbaaGreatDoorAppend
import Derived.Test.YtmlfeljhojmbbaaGreatDoorAppendL
import Derived.Test.YtmlfeljhojmbbaaGreatDoorAppendC
namespace Go.Proofs.YtmlfeljhojmbbaaGreatDoor
open Go.RowKit Go.Maps
set_option linter.unusedSimpArgs false
set_option linter.unusedVariables false
set_option maxRecDepth 100000

/-- a disk with the files S in blocks of F -/
def Dsk (w : World) (gd : Nat) (F : List Nat) (n : Nat) (S : List Fl) (room short fuse : Int) : Prop :=
  ∃ gm es, DiskAt w gd gm n es room short fuse ∧ fls es = S ∧ ∀ x ∈ foot gd gm es, x ∈ F
/-- behind a call that changes the disk alone -/
def Stp (w w' : World) (gd : Nat) (F : List Nat) (n : Nat) (S : List Fl) (room short fuse : Int) : Prop :=
  ∃ F', Dsk w' gd F' n S room short fuse ∧ Kb w w' F ∧ ∀ x ∈ F', x ∈ F ∨ w.heap.size ≤ x
section
variable {w w' : World} {gd n : Nat} {F : List Nat} {S : List Fl} {room short fuse : Int}
theorem Dsk.below (h : Dsk w gd F n S room short fuse) (hb : Below w.heap.size w w') : Dsk w' gd F n S room short fuse := by
  obtain ⟨gm, es, h1, h2, h3⟩ := h
  exact ⟨gm, es, h1.below hb, h2, h3⟩
theorem Dsk.kept (h : Dsk w gd F n S room short fuse) {L : List Nat} (hk : Kb w w' L) (hL : ∀ x ∈ F, x ∉ L) : Dsk w' gd F n S room short fuse := by
  obtain ⟨gm, es, h1, h2, h3⟩ := h
  exact ⟨gm, es, h1.keep hk fun x hx => hL x (h3 x hx), h2, h3⟩
theorem Stp.of_after {gm : Nat} {es : List Ent} {n' : Nat} {S' : List Fl} {room' short' fuse' : Int} (h : After w w' gd gm es n' S' room' short' fuse') (hF : ∀ x ∈ foot gd gm es, x ∈ F) : Stp w w' gd F n' S' room' short' fuse' := by
  obtain ⟨⟨es', h1, h2, h3⟩, h4⟩ := h
  refine ⟨foot gd gm es', ⟨gm, es', h1, h2, fun x hx => hx⟩, h4.mono hF, fun x hx => (h3 x hx).elim (fun h => .inl (hF x h)) .inr⟩
theorem Stp.of_same {gm : Nat} {es : List Ent} {n' : Nat} {S' : List Fl} {room' short' fuse' : Int} {L : List Nat} (h : DiskAt w' gd gm n' es room' short' fuse') (hk : Kb w w' L) (hS : fls es = S') (hF : ∀ x ∈ foot gd gm es, x ∈ F) (hL : ∀ x ∈ L, x ∈ foot gd gm es) : Stp w w' gd F n' S' room' short' fuse' :=
  ⟨F, ⟨gm, es, h, hS, hF⟩, hk.mono fun x hx => hF x (hL x hx), fun x hx => .inl hx⟩
/-- the disk of a law: all its blocks are new -/
structure New (B : Nat) (w0 w : World) (gd n : Nat) (S : List Fl) (room short fuse : Int) : Prop where
  go : ∃ F, Dsk w gd F n S room short fuse ∧ ∀ x ∈ F, B ≤ x
  below : Below B w0 w
theorem New.step {B : Nat} {w0 : World} (h : New B w0 w gd n S room short fuse) (hB : B ≤ w.heap.size) {P : World → Prop} {n' : Nat} {S' : List Fl} {room' short' fuse' : Int} (F : List Nat) (hF : ∀ x ∈ F, B ≤ x)
    (hs : Stp w w' gd F n' S' room' short' fuse') : New B w0 w' gd n' S' room' short' fuse' := by
  obtain ⟨F', h1, h2, h3⟩ := hs
  exact ⟨⟨F', h1, fun x hx => (h3 x hx).elim (hF x) fun h => Nat.le_trans hB h⟩, h2.below h.below hF hB⟩
theorem New.quiet {B : Nat} {w0 : World} (h : New B w0 w gd n S room short fuse) (hb : Below w.heap.size w w') (hB : B ≤ w.heap.size) : New B w0 w' gd n S room short fuse := by
  obtain ⟨⟨F, h1, h2⟩, h3⟩ := h
  exact ⟨⟨F, h1.below hb, h2⟩, h3.trans (hb.mono hB)⟩
/-! ### the calls -/
theorem dk_new (room : Int) (w : World) (h0 : 0 ≤ room) (h1 : room ≤ 1099511627776) :
    Calls Tryz.prog 8 #[.int .i64 room] w fun e w' => ∃ gd, e = .returned (.tuple #[gp gd, .int .i64 0]) ∧ New w.heap.size w w' gd 0 [] room (-1) (-1) := by
  refine (dnew_calls room w h0 h1).mono ?_
  rintro e w' ⟨gd, gm, rfl, hD, hb, hF⟩
  exact ⟨gd, rfl, ⟨⟨foot gd gm [], ⟨gm, [], hD, rfl, fun x hx => hx⟩, hF⟩, hb⟩⟩
def appLen (short : Int) (m : Nat) : Nat := if 0 ≤ short ∧ short < m then short.toNat else m
theorem dk_append (h : Dsk w gd F n S room short fuse) (s : ByteArray) (A : Option Addr) (m c : Nat) (b : List UInt8) (hs : s.size ≤ reach) (hf1 : -9223372036854775808 ≤ fuse) (hf2 : fuse ≤ 9223372036854775807) (hok : nameOk s.data.toList = true) (hf : fuse ≠ 0)
    (hr : RdB w A b) (hm : b.length = m) (hmc : m ≤ c) (hml : m ≤ reach) (hn : n < 1000000000) (hr1 : 0 ≤ room) (hr2 : room ≤ 1099511627776) (hs1 : -1 ≤ short) (hs2 : short ≤ 9223372036854775807) :
    Calls Tryz.prog 21 #[gp gd, .string s, .slice A m c] w fun e w' =>
      (1048576 < lenF S s.data.toList + appLen short m ∨ room < used S + appLen short m → e = .returned (.tuple #[.int .i64 0, .int .i64 4]) ∧ Stp w w' gd F (n + 1) S room (-1) (chFuse true fuse)) ∧
      (¬ (1048576 < lenF S s.data.toList + appLen short m ∨ room < used S + appLen short m) → e = .returned (.tuple #[.int .i64 (appLen short m : Int), .int .i64 (if appLen short m < m then 61 else 0)]) ∧ Stp w w' gd F (n + 1) (addF S s.data.toList (b.take (appLen short m))) room (-1) (chFuse true fuse)) := by
  obtain ⟨gm, es, hD, rfl, hF⟩ := h
  have hus : used (fls es) = usedE es := used_map es
  have hta : b.take m = b := List.take_of_length_le (by omega)
  rw [hus]
  by_cases h1 : short = -1
  · subst h1
    have ha : appLen (-1) m = m := by simp [appLen]
    rw [ha, hta, if_neg (Nat.lt_irrefl m)]
    cases hx : lookE es s.data.toList with
    | none =>
      rw [lenF_none hx]
      by_cases hA : 1048576 < 0 + m
      · refine (append_nn1 hD s A m c b hs hf1 hf2 hok hf hr hm hmc hml hn hr1 hr2 hx hA).mono ?_
        rintro e w' ⟨he, ha⟩
        exact ⟨fun _ => ⟨he, Stp.of_after ha hF⟩, fun h => absurd (.inl hA) h⟩
      · by_cases hB : room < usedE es + m
        · refine (append_nn2 hD s A m c b hs hf1 hf2 hok hf hr hm hmc hml hn hr1 hr2 hx (by omega) hB).mono ?_
          rintro e w' ⟨he, ha⟩
          exact ⟨fun _ => ⟨he, Stp.of_after ha hF⟩, fun h => absurd (.inr hB) h⟩
        · refine (append_nn3 hD s A m c b hs hf1 hf2 hok hf hr hm hmc hml hn hr1 hr2 hx (by omega) (by omega)).mono ?_
          rintro e w' ⟨he, ha⟩
          exact ⟨fun h => (h.elim hA hB).elim, fun _ => ⟨he, Stp.of_after ha hF⟩⟩
    | some x =>
      rw [lenF_some hx]
      by_cases hA : 1048576 < x.b.length + m
      · refine (append_no1 hD s A m c b hs hf1 hf2 hok hf hr hm hmc hml hn hr1 hr2 hx hA).mono ?_
        rintro e w' ⟨he, ha⟩
        exact ⟨fun _ => ⟨he, Stp.of_after ha hF⟩, fun h => absurd (.inl hA) h⟩
      · by_cases hB : room < usedE es + m
        · refine (append_no2 hD s A m c b hs hf1 hf2 hok hf hr hm hmc hml hn hr1 hr2 hx (by omega) hB).mono ?_
          rintro e w' ⟨he, ha⟩
          exact ⟨fun _ => ⟨he, Stp.of_after ha hF⟩, fun h => absurd (.inr hB) h⟩
        · refine (append_no3 hD s A m c b hs hf1 hf2 hok hf hr hm hmc hml hn hr1 hr2 hx (by omega) (by omega)).mono ?_
          rintro e w' ⟨he, ha⟩
          exact ⟨fun h => (h.elim hA hB).elim, fun _ => ⟨he, Stp.of_after ha hF⟩⟩
  · obtain ⟨sh, rfl⟩ : ∃ sh : Nat, short = (sh : Int) := ⟨short.toNat, by omega⟩
    by_cases h2 : sh < m
    · have ha : appLen (sh : Int) m = sh := by
        unfold appLen
        rw [if_pos ⟨by omega, by omega⟩]
        rfl
      rw [ha, if_pos h2]
      cases hx : lookE es s.data.toList with
      | none =>
        rw [lenF_none hx]
        by_cases hA : 1048576 < 0 + sh
        · refine (append_cn1 sh hD s A m c b hs hf1 hf2 hok hf hr hm hmc hml hn hr1 hr2 h2 hx hA).mono ?_
          rintro e w' ⟨he, ha⟩
          exact ⟨fun _ => ⟨he, Stp.of_after ha hF⟩, fun h => absurd (.inl hA) h⟩
        · by_cases hB : room < usedE es + sh
          · refine (append_cn2 sh hD s A m c b hs hf1 hf2 hok hf hr hm hmc hml hn hr1 hr2 h2 hx (by omega) hB).mono ?_
            rintro e w' ⟨he, ha⟩
            exact ⟨fun _ => ⟨he, Stp.of_after ha hF⟩, fun h => absurd (.inr hB) h⟩
          · refine (append_cn3 sh hD s A m c b hs hf1 hf2 hok hf hr hm hmc hml hn hr1 hr2 h2 hx (by omega) (by omega)).mono ?_
            rintro e w' ⟨he, ha⟩
            exact ⟨fun h => (h.elim hA hB).elim, fun _ => ⟨he, Stp.of_after ha hF⟩⟩
      | some x =>
        rw [lenF_some hx]
        by_cases hA : 1048576 < x.b.length + sh
        · refine (append_co1 sh hD s A m c b hs hf1 hf2 hok hf hr hm hmc hml hn hr1 hr2 h2 hx hA).mono ?_
          rintro e w' ⟨he, ha⟩
          exact ⟨fun _ => ⟨he, Stp.of_after ha hF⟩, fun h => absurd (.inl hA) h⟩
        · by_cases hB : room < usedE es + sh
          · refine (append_co2 sh hD s A m c b hs hf1 hf2 hok hf hr hm hmc hml hn hr1 hr2 h2 hx (by omega) hB).mono ?_
            rintro e w' ⟨he, ha⟩
            exact ⟨fun _ => ⟨he, Stp.of_after ha hF⟩, fun h => absurd (.inr hB) h⟩
          · refine (append_co3 sh hD s A m c b hs hf1 hf2 hok hf hr hm hmc hml hn hr1 hr2 h2 hx (by omega) (by omega)).mono ?_
            rintro e w' ⟨he, ha⟩
            exact ⟨fun h => (h.elim hA hB).elim, fun _ => ⟨he, Stp.of_after ha hF⟩⟩
    · have ha : appLen (sh : Int) m = m := by
        unfold appLen
        rw [if_neg (by omega)]
      rw [ha, hta, if_neg (Nat.lt_irrefl m)]
      cases hx : lookE es s.data.toList with
      | none =>
        rw [lenF_none hx]
        by_cases hA : 1048576 < 0 + m
        · refine (append_ln1 sh hD s A m c b hs hf1 hf2 hok hf hr hm hmc hml hn hr1 hr2 (by omega) (by omega) hx hA).mono ?_
          rintro e w' ⟨he, ha⟩
          exact ⟨fun _ => ⟨he, Stp.of_after ha hF⟩, fun h => absurd (.inl hA) h⟩
        · by_cases hB : room < usedE es + m
          · refine (append_ln2 sh hD s A m c b hs hf1 hf2 hok hf hr hm hmc hml hn hr1 hr2 (by omega) (by omega) hx (by omega) hB).mono ?_
            rintro e w' ⟨he, ha⟩
            exact ⟨fun _ => ⟨he, Stp.of_after ha hF⟩, fun h => absurd (.inr hB) h⟩
          · refine (append_ln3 sh hD s A m c b hs hf1 hf2 hok hf hr hm hmc hml hn hr1 hr2 (by omega) (by omega) hx (by omega) (by omega)).mono ?_
            rintro e w' ⟨he, ha⟩
            exact ⟨fun h => (h.elim hA hB).elim, fun _ => ⟨he, Stp.of_after ha hF⟩⟩
      | some x =>
        rw [lenF_some hx]
        by_cases hA : 1048576 < x.b.length + m
        · refine (append_lo1 sh hD s A m c b hs hf1 hf2 hok hf hr hm hmc hml hn hr1 hr2 (by omega) (by omega) hx hA).mono ?_
          rintro e w' ⟨he, ha⟩
          exact ⟨fun _ => ⟨he, Stp.of_after ha hF⟩, fun h => absurd (.inl hA) h⟩
        · by_cases hB : room < usedE es + m
          · refine (append_lo2 sh hD s A m c b hs hf1 hf2 hok hf hr hm hmc hml hn hr1 hr2 (by omega) (by omega) hx (by omega) hB).mono ?_
            rintro e w' ⟨he, ha⟩
            exact ⟨fun _ => ⟨he, Stp.of_after ha hF⟩, fun h => absurd (.inr hB) h⟩
          · refine (append_lo3 sh hD s A m c b hs hf1 hf2 hok hf hr hm hmc hml hn hr1 hr2 (by omega) (by omega) hx (by omega) (by omega)).mono ?_
            rintro e w' ⟨he, ha⟩
            exact ⟨fun h => (h.elim hA hB).elim, fun _ => ⟨he, Stp.of_after ha hF⟩⟩
theorem dk_append_stop (h : Dsk w gd F n S room short fuse) (s : ByteArray) (A : Option Addr) (m c : Nat) (hs : s.size ≤ reach) (hf1 : -9223372036854775808 ≤ fuse) (hf2 : fuse ≤ 9223372036854775807) (hstop : chErr (nameOk s.data.toList) fuse ≠ 0) :
    Calls Tryz.prog 21 #[gp gd, .string s, .slice A m c] w fun e w' => e = .returned (.tuple #[.int .i64 0, .int .i64 (chErr (nameOk s.data.toList) fuse)]) ∧ Stp w w' gd F n S room short (chFuse (nameOk s.data.toList) fuse) := by
  obtain ⟨gm, es, hD, rfl, hF⟩ := h
  refine (append_stop hD s A m c hs hf1 hf2 hstop).mono ?_
  rintro e w' ⟨rfl, hD', hk⟩
  exact ⟨rfl, Stp.of_same hD' hk rfl hF (by simp [foot])⟩
theorem dk_used (h : Dsk w gd F n S room short fuse) : Calls Tryz.prog 66 #[gp gd] w fun e w' => e = .returned (.int .i64 (used S : Int)) ∧ Below w.heap.size w w' := by
  obtain ⟨gm, es, hD, rfl, hF⟩ := h
  refine (used_calls hD).mono ?_
  rintro e w' ⟨rfl, hb⟩
  exact ⟨by rw [fls, used_map], hb⟩
theorem look_fls {es : List Ent} {s b : List UInt8} {sy : Nat} (h : look (fls es) s = some (b, sy)) : ∃ x, lookE es s = some x ∧ x.b = b ∧ x.syn = sy := by
  unfold fls at h
  rw [look_map] at h
  cases hx : lookE es s with
  | none => rw [hx] at h; cases h
  | some x =>
    rw [hx] at h
    injection h with h
    injection h with h1 h2
    exact ⟨x, rfl, h1, h2⟩
theorem look_fls_none {es : List Ent} {s : List UInt8} (h : look (fls es) s = none) : lookE es s = none := by
  unfold fls at h
  rw [look_map] at h
  cases hx : lookE es s with
  | none => rfl
  | some x => rw [hx] at h; cases h
theorem dk_read (h : Dsk w gd F n S room short fuse) (s : ByteArray) (hs : s.size ≤ reach) {b : List UInt8} {sy : Nat} (hx : look S s.data.toList = some (b, sy)) : Calls Tryz.prog 40 #[gp gd, .string s] w fun e w' =>
    ∃ v, e = .returned (.tuple #[v, .int .i64 0]) ∧ Own w' 5 1 v b.length (bys b) ∧ Below w.heap.size w w' ∧ ∀ g, v.ownBlock = some g → w.heap.size ≤ g := by
  obtain ⟨gm, es, hD, rfl, hF⟩ := h
  obtain ⟨x, h1, rfl, h3⟩ := look_fls hx
  exact read_calls hD s hs h1
theorem dk_read_none (h : Dsk w gd F n S room short fuse) (s : ByteArray) (hs : s.size ≤ reach) (hx : look S s.data.toList = none) : Calls Tryz.prog 40 #[gp gd, .string s] w fun e w' =>
    e = .returned (.tuple #[.slice none 0 0, .int .i64 60]) ∧ w = w' := by
  obtain ⟨gm, es, hD, rfl, hF⟩ := h
  exact read_none hD s hs (look_fls_none hx)
theorem dk_synced (h : Dsk w gd F n S room short fuse) (s : ByteArray) (hs : s.size ≤ reach) {b : List UInt8} {sy : Nat} (hx : look S s.data.toList = some (b, sy)) : Calls Tryz.prog 80 #[gp gd, .string s] w fun e w' =>
    e = .returned (.int .i64 (sy : Int)) ∧ w = w' := by
  obtain ⟨gm, es, hD, rfl, hF⟩ := h
  obtain ⟨x, h1, h2, rfl⟩ := look_fls hx
  exact synced_calls hD s hs h1
theorem dk_short (h : Dsk w gd F n S room short fuse) (x : Int) : Calls Tryz.prog 32 #[gp gd, .int .i64 x] w fun e w' =>
    e = .returned (.int .i64 (if x < 0 then 1 else 0)) ∧ Stp w w' gd F n S room (if x < 0 then short else x) fuse := by
  obtain ⟨gm, es, hD, rfl, hF⟩ := h
  refine (short_calls hD x).mono ?_
  rintro e w' ⟨rfl, hD', hk⟩
  exact ⟨rfl, Stp.of_same hD' hk rfl hF (by simp [foot])⟩
theorem dk_fuse (h : Dsk w gd F n S room short fuse) (x : Int) : Calls Tryz.prog 12 #[gp gd, .int .i64 x] w fun e w' =>
    e = .returned (.int .i64 (if x < 0 then 1 else 0)) ∧ Stp w w' gd F n S room short (if x < 0 then fuse else x) := by
  obtain ⟨gm, es, hD, rfl, hF⟩ := h
  refine (fuse_calls hD x).mono ?_
  rintro e w' ⟨rfl, hD', hk⟩
  exact ⟨rfl, Stp.of_same hD' hk rfl hF (by simp [foot])⟩
theorem dk_room (h : Dsk w gd F n S room short fuse) (x : Int) : Calls Tryz.prog 34 #[gp gd, .int .i64 x] w fun e w' =>
    e = .returned (.int .i64 (if x < 0 ∨ 1099511627776 < x then 1 else 0)) ∧ Stp w w' gd F n S (if x < 0 ∨ 1099511627776 < x then room else x) short fuse := by
  obtain ⟨gm, es, hD, rfl, hF⟩ := h
  refine (room_calls hD x).mono ?_
  rintro e w' ⟨rfl, hD', hk⟩
  exact ⟨rfl, Stp.of_same hD' hk rfl hF (by simp [foot])⟩
end
end Go.Proofs.YtmlfeljhojmbbaaGreatDoor
