/- The calls on a law's own disk. -/
import Derived.Test.YtmlfeljhojmbbaaGreatDoorDk
namespace Go.Proofs.YtmlfeljhojmbbaaGreatDoor
open Go.RowKit Go.Maps
set_option linter.unusedSimpArgs false
set_option linter.unusedVariables false
set_option maxRecDepth 100000

abbrev Nw (w0 w : World) (gd n : Nat) (S : List Fl) (room short fuse : Int) : Prop := New w0.heap.size w0 w gd n S room short fuse
section
variable {w0 w w' : World} {gd n : Nat} {S : List Fl} {room short fuse : Int}
theorem nw_size (h : Nw w0 w gd n S room short fuse) : w0.heap.size ≤ w.heap.size := h.below.size
theorem nw_quiet (h : Nw w0 w gd n S room short fuse) (hb : Below w.heap.size w w') : Nw w0 w' gd n S room short fuse := h.quiet hb (nw_size h)
theorem nw_drew (h : Nw w0 w gd n S room short fuse) : Nw w0 w.drew gd n S room short fuse := nw_quiet h (w' := w.drew) ⟨rfl, rfl, rfl, Nat.le_refl _, fun _ _ => rfl⟩
theorem nw_drewN (h : Nw w0 w gd n S room short fuse) (q : Nat) : Nw w0 (w.drewN q) gd n S room short fuse := nw_quiet h (w' := w.drewN q) ⟨rfl, rfl, rfl, Nat.le_refl _, fun _ _ => rfl⟩
theorem nw_alloc (h : Nw w0 w gd n S room short fuse) (o : Obj) : Nw w0 (w.alloc o) gd n S room short fuse := nw_quiet h ((Below.refl _ w).alloc (Nat.le_refl _) o)
theorem nw_step (h : Nw w0 w gd n S room short fuse) : ∃ F, Dsk w gd F n S room short fuse ∧ ∀ w' n' S' room' short' fuse', Stp w w' gd F n' S' room' short' fuse' → Nw w0 w' gd n' S' room' short' fuse' := by
  obtain ⟨F, h1, h2⟩ := h.go
  exact ⟨F, h1, fun w' n' S' r s f hs => h.step (nw_size h) (P := fun _ => True) F h2 hs⟩
theorem rdB_nw {A : Option Addr} {b : List UInt8} (h : Nw w0 w gd n S room short fuse) (hr : RdB w0 A b) : RdB w A b := hr.keep h.below
theorem nw_append (h : Nw w0 w gd n S room short fuse) (s : ByteArray) (A : Option Addr) (m c : Nat) (b : List UInt8) (hs : s.size ≤ reach) (hf1 : -9223372036854775808 ≤ fuse) (hf2 : fuse ≤ 9223372036854775807) (hok : nameOk s.data.toList = true) (hf : fuse ≠ 0)
    (hr : RdB w A b) (hm : b.length = m) (hmc : m ≤ c) (hml : m ≤ reach) (hn : n < 1000000000) (hr1 : 0 ≤ room) (hr2 : room ≤ 1099511627776) (hs1 : -1 ≤ short) (hs2 : short ≤ 9223372036854775807)
    (hfit : lenF S s.data.toList + appLen short m ≤ 1048576) (hfit2 : used S + appLen short m ≤ room) :
    Calls Tryz.prog 21 #[gp gd, .string s, .slice A m c] w fun e w' =>
      e = .returned (.tuple #[.int .i64 (appLen short m : Int), .int .i64 (if appLen short m < m then 61 else 0)]) ∧ Nw w0 w' gd (n + 1) (addF S s.data.toList (b.take (appLen short m))) room (-1) (chFuse true fuse) := by
  obtain ⟨F, hD, hst⟩ := nw_step h
  refine (dk_append hD s A m c b hs hf1 hf2 hok hf hr hm hmc hml hn hr1 hr2 hs1 hs2).mono ?_
  rintro e w' ⟨_, hp⟩
  obtain ⟨he, hs⟩ := hp (by omega)
  exact ⟨he, hst _ _ _ _ _ _ hs⟩
theorem nw_append_full (h : Nw w0 w gd n S room short fuse) (s : ByteArray) (A : Option Addr) (m c : Nat) (b : List UInt8) (hs : s.size ≤ reach) (hf1 : -9223372036854775808 ≤ fuse) (hf2 : fuse ≤ 9223372036854775807) (hok : nameOk s.data.toList = true) (hf : fuse ≠ 0)
    (hr : RdB w A b) (hm : b.length = m) (hmc : m ≤ c) (hml : m ≤ reach) (hn : n < 1000000000) (hr1 : 0 ≤ room) (hr2 : room ≤ 1099511627776) (hs1 : -1 ≤ short) (hs2 : short ≤ 9223372036854775807)
    (hfull : room < used S + appLen short m) :
    Calls Tryz.prog 21 #[gp gd, .string s, .slice A m c] w fun e w' =>
      e = .returned (.tuple #[.int .i64 0, .int .i64 4]) ∧ Nw w0 w' gd (n + 1) S room (-1) (chFuse true fuse) := by
  obtain ⟨F, hD, hst⟩ := nw_step h
  refine (dk_append hD s A m c b hs hf1 hf2 hok hf hr hm hmc hml hn hr1 hr2 hs1 hs2).mono ?_
  rintro e w' ⟨hp, _⟩
  obtain ⟨he, hs⟩ := hp (.inr hfull)
  exact ⟨he, hst _ _ _ _ _ _ hs⟩
theorem nw_append_stop (h : Nw w0 w gd n S room short fuse) (s : ByteArray) (A : Option Addr) (m c : Nat) (hs : s.size ≤ reach) (hf1 : -9223372036854775808 ≤ fuse) (hf2 : fuse ≤ 9223372036854775807) (hstop : chErr (nameOk s.data.toList) fuse ≠ 0) :
    Calls Tryz.prog 21 #[gp gd, .string s, .slice A m c] w fun e w' => e = .returned (.tuple #[.int .i64 0, .int .i64 (chErr (nameOk s.data.toList) fuse)]) ∧ Nw w0 w' gd n S room short (chFuse (nameOk s.data.toList) fuse) := by
  obtain ⟨F, hD, hst⟩ := nw_step h
  refine (dk_append_stop hD s A m c hs hf1 hf2 hstop).mono ?_
  rintro e w' ⟨he, hs⟩
  exact ⟨he, hst _ _ _ _ _ _ hs⟩
theorem nw_used (h : Nw w0 w gd n S room short fuse) : Calls Tryz.prog 66 #[gp gd] w fun e w' => e = .returned (.int .i64 (used S : Int)) ∧ Nw w0 w' gd n S room short fuse ∧ Below w.heap.size w w' := by
  obtain ⟨F, hD, hst⟩ := nw_step h
  refine (dk_used hD).mono ?_
  rintro e w' ⟨he, hb⟩
  exact ⟨he, nw_quiet h hb, hb⟩
theorem nw_read (h : Nw w0 w gd n S room short fuse) (s : ByteArray) (hs : s.size ≤ reach) {b : List UInt8} {sy : Nat} (hx : look S s.data.toList = some (b, sy)) : Calls Tryz.prog 40 #[gp gd, .string s] w fun e w' =>
    ∃ v, e = .returned (.tuple #[v, .int .i64 0]) ∧ Own w' 5 1 v b.length (bys b) ∧ Nw w0 w' gd n S room short fuse ∧ Below w.heap.size w w' ∧ ∀ g, v.ownBlock = some g → w.heap.size ≤ g := by
  obtain ⟨F, hD, hst⟩ := nw_step h
  refine (dk_read hD s hs hx).mono ?_
  rintro e w' ⟨v, he, ho, hb, hn⟩
  exact ⟨v, he, ho, nw_quiet h hb, hb, hn⟩
theorem nw_read_none (h : Nw w0 w gd n S room short fuse) (s : ByteArray) (hs : s.size ≤ reach) (hx : look S s.data.toList = none) : Calls Tryz.prog 40 #[gp gd, .string s] w fun e w' =>
    e = .returned (.tuple #[.slice none 0 0, .int .i64 60]) ∧ w = w' := by
  obtain ⟨F, hD, hst⟩ := nw_step h
  exact dk_read_none hD s hs hx
theorem nw_synced (h : Nw w0 w gd n S room short fuse) (s : ByteArray) (hs : s.size ≤ reach) {b : List UInt8} {sy : Nat} (hx : look S s.data.toList = some (b, sy)) : Calls Tryz.prog 80 #[gp gd, .string s] w fun e w' =>
    e = .returned (.int .i64 (sy : Int)) ∧ w = w' := by
  obtain ⟨F, hD, hst⟩ := nw_step h
  exact dk_synced hD s hs hx
theorem nw_short (h : Nw w0 w gd n S room short fuse) (x : Int) (hx : 0 ≤ x) : Calls Tryz.prog 32 #[gp gd, .int .i64 x] w fun e w' =>
    e = .returned (.int .i64 0) ∧ Nw w0 w' gd n S room x fuse := by
  obtain ⟨F, hD, hst⟩ := nw_step h
  refine (dk_short hD x).mono ?_
  rw [if_neg (by omega), if_neg (by omega)]
  rintro e w' ⟨he, hs⟩
  exact ⟨he, hst _ _ _ _ _ _ hs⟩
theorem nw_fuse (h : Nw w0 w gd n S room short fuse) (x : Int) (hx : 0 ≤ x) : Calls Tryz.prog 12 #[gp gd, .int .i64 x] w fun e w' =>
    e = .returned (.int .i64 0) ∧ Nw w0 w' gd n S room short x := by
  obtain ⟨F, hD, hst⟩ := nw_step h
  refine (dk_fuse hD x).mono ?_
  rw [if_neg (by omega), if_neg (by omega)]
  rintro e w' ⟨he, hs⟩
  exact ⟨he, hst _ _ _ _ _ _ hs⟩
theorem nw_room (h : Nw w0 w gd n S room short fuse) (x : Int) (hx : 0 ≤ x) (hx2 : x ≤ 1099511627776) : Calls Tryz.prog 34 #[gp gd, .int .i64 x] w fun e w' =>
    e = .returned (.int .i64 0) ∧ Nw w0 w' gd n S x short fuse := by
  obtain ⟨F, hD, hst⟩ := nw_step h
  refine (dk_room hD x).mono ?_
  rw [if_neg (by omega), if_neg (by omega)]
  rintro e w' ⟨he, hs⟩
  exact ⟨he, hst _ _ _ _ _ _ hs⟩
end
end Go.Proofs.YtmlfeljhojmbbaaGreatDoor
