/- The calls on a law's own disk, the rest. -/
import Derived.Test.YtmlfeljhojmbbaaGreatDoorCrash
namespace Go.Proofs.YtmlfeljhojmbbaaGreatDoor
open Go.RowKit Go.Maps
set_option linter.unusedSimpArgs false
set_option linter.unusedVariables false
set_option maxRecDepth 100000

section
variable {w0 w w' : World} {gd n : Nat} {S : List Fl} {room short fuse : Int}
theorem nw_at (h : Nw w0 w gd n S room short fuse) : ∃ gm es, DiskAt w gd gm n es room short fuse ∧ fls es = S ∧ ∀ w' n' S' room' short' fuse', After w w' gd gm es n' S' room' short' fuse' → Nw w0 w' gd n' S' room' short' fuse' := by
  obtain ⟨F, ⟨gm, es, h1, h2, h3⟩, h4⟩ := h.go
  exact ⟨gm, es, h1, h2, fun w' n' S' r s f ha => h.step (nw_size h) (P := fun _ => True) F h4 (Stp.of_after ha h3)⟩
theorem nw_sync_stop (h : Nw w0 w gd n S room short 0) (s : ByteArray) : Calls Tryz.prog 24 #[gp gd, .string s] w fun e w' => e = .returned (.int .i64 62) ∧ Nw w0 w' gd n S room short 0 := by
  obtain ⟨gm, es, hD, rfl, hst⟩ := nw_at h
  refine (sync_stop hD s rfl).mono ?_
  rintro e w' ⟨he, ha⟩
  exact ⟨he, hst _ _ _ _ _ _ ha⟩
theorem nw_sync (h : Nw w0 w gd n S room short fuse) (s : ByteArray) (hs : s.size ≤ reach) (hf1 : -9223372036854775808 ≤ fuse) (hf2 : fuse ≤ 9223372036854775807) (hf : fuse ≠ 0) {b : List UInt8} {sy : Nat} (hx : look S s.data.toList = some (b, sy)) :
    Calls Tryz.prog 24 #[gp gd, .string s] w fun e w' => e = .returned (.int .i64 0) ∧ Nw w0 w' gd n (setF S s.data.toList b b.length) room short (chFuse true fuse) := by
  obtain ⟨gm, es, hD, rfl, hst⟩ := nw_at h
  obtain ⟨x, h1, rfl, h3⟩ := look_fls hx
  refine (sync_some hD s hs hf1 hf2 hf h1).mono ?_
  rintro e w' ⟨he, ha⟩
  exact ⟨he, hst _ _ _ _ _ _ ha⟩
theorem nw_remove_stop (h : Nw w0 w gd n S room short 0) (s : ByteArray) : Calls Tryz.prog 30 #[gp gd, .string s] w fun e w' => e = .returned (.int .i64 62) ∧ Nw w0 w' gd n S room short 0 := by
  obtain ⟨gm, es, hD, rfl, hst⟩ := nw_at h
  refine (remove_stop hD s rfl).mono ?_
  rintro e w' ⟨he, ha⟩
  exact ⟨he, hst _ _ _ _ _ _ ha⟩
theorem nw_remove_none (h : Nw w0 w gd n S room short fuse) (s : ByteArray) (hs : s.size ≤ reach) (hf1 : -9223372036854775808 ≤ fuse) (hf2 : fuse ≤ 9223372036854775807) (hf : fuse ≠ 0) (hx : look S s.data.toList = none) :
    Calls Tryz.prog 30 #[gp gd, .string s] w fun e w' => e = .returned (.int .i64 60) ∧ Nw w0 w' gd n S room short (chFuse true fuse) := by
  obtain ⟨gm, es, hD, rfl, hst⟩ := nw_at h
  refine (remove_none hD s hs hf1 hf2 hf (look_fls_none hx)).mono ?_
  rintro e w' ⟨he, ha⟩
  exact ⟨he, hst _ _ _ _ _ _ ha⟩
theorem nw_rename_stop (h : Nw w0 w gd n S room short fuse) (s t : ByteArray) (ht : t.size ≤ reach) (hf1 : -9223372036854775808 ≤ fuse) (hf2 : fuse ≤ 9223372036854775807) (hstop : chErr (nameOk t.data.toList) fuse ≠ 0) :
    Calls Tryz.prog 28 #[gp gd, .string s, .string t] w fun e w' => e = .returned (.int .i64 (chErr (nameOk t.data.toList) fuse)) ∧ Nw w0 w' gd n S room short (chFuse (nameOk t.data.toList) fuse) := by
  obtain ⟨gm, es, hD, rfl, hst⟩ := nw_at h
  refine (rename_stop hD s t ht hf1 hf2 hstop).mono ?_
  rintro e w' ⟨he, ha⟩
  exact ⟨he, hst _ _ _ _ _ _ ha⟩
theorem nw_rename_none (h : Nw w0 w gd n S room short fuse) (s t : ByteArray) (hs : s.size ≤ reach) (ht : t.size ≤ reach) (hf1 : -9223372036854775808 ≤ fuse) (hf2 : fuse ≤ 9223372036854775807) (hf : fuse ≠ 0) (hok : nameOk t.data.toList = true) (hx : look S s.data.toList = none) :
    Calls Tryz.prog 28 #[gp gd, .string s, .string t] w fun e w' => e = .returned (.int .i64 60) ∧ Nw w0 w' gd n S room short (chFuse true fuse) := by
  obtain ⟨gm, es, hD, rfl, hst⟩ := nw_at h
  refine (rename_none hD s t hs ht hf1 hf2 hf hok (look_fls_none hx)).mono ?_
  rintro e w' ⟨he, ha⟩
  exact ⟨he, hst _ _ _ _ _ _ ha⟩
theorem nw_rename (h : Nw w0 w gd n S room short fuse) (s t : ByteArray) (hs : s.size ≤ reach) (ht : t.size ≤ reach) (hf1 : -9223372036854775808 ≤ fuse) (hf2 : fuse ≤ 9223372036854775807) (hf : fuse ≠ 0) (hok : nameOk t.data.toList = true) (hn : n < 1000000000) {b : List UInt8} {sy : Nat} (hx : look S s.data.toList = some (b, sy)) :
    Calls Tryz.prog 28 #[gp gd, .string s, .string t] w fun e w' => e = .returned (.int .i64 0) ∧ Nw w0 w' gd (n + 1) (renF S s.data.toList t.data.toList b sy) room short (chFuse true fuse) := by
  obtain ⟨gm, es, hD, rfl, hst⟩ := nw_at h
  obtain ⟨x, h1, rfl, rfl⟩ := look_fls hx
  refine (rename_some hD s t hs ht hf1 hf2 hf hok hn h1).mono ?_
  rintro e w' ⟨he, ha⟩
  exact ⟨he, hst _ _ _ _ _ _ ha⟩
theorem nw_cut_stop (h : Nw w0 w gd n S room short 0) (s : ByteArray) (hs : s.size ≤ reach) : Calls Tryz.prog 26 #[gp gd, .string s, .int .i64 0] w fun e w' => e = .returned (.int .i64 62) ∧ Nw w0 w' gd n S room short 0 := by
  obtain ⟨gm, es, hD, rfl, hst⟩ := nw_at h
  have h1 : chErr true 0 = 62 := rfl
  have h2 : chFuse true 0 = 0 := rfl
  cases hx : lookE es s.data.toList with
  | none =>
    have hc := cut_stop_none hD s 0 hs (by omega) (by omega) hx
    rw [decide_eq_true (Int.le_refl 0), h1, h2, if_neg (by decide)] at hc
    refine hc.mono ?_
    rintro e w' ⟨he, ha⟩
    exact ⟨he, hst _ _ _ _ _ _ ha⟩
  | some x =>
    have hd : decide ((0 : Int) ≤ 0 ∧ (0 : Int) ≤ x.b.length) = true := decide_eq_true ⟨Int.le_refl 0, by omega⟩
    have hc := cut_stop_some hD s 0 hs (by omega) (by omega) hx (by rw [hd, h1]; decide)
    rw [hd, h1, h2] at hc
    refine hc.mono ?_
    rintro e w' ⟨he, ha⟩
    exact ⟨he, hst _ _ _ _ _ _ ha⟩
theorem nw_crash (h : Nw w0 w gd n S room short fuse) (A : Option Addr) (cap : Nat) (tl : List Tl) (hlen : tl.length < 9000000000000) (hR : RdT w A tl) (hRb : ∀ ad, A = some ad → tl ≠ [] → ad.block < w.heap.size) :
    Calls Tryz.prog 16 #[gp gd, .slice A tl.length cap] w fun e w' => e = .returned (.int .i64 0) ∧ Nw w0 w' gd n (crashF (fun s => (tailOf tl s).getD zeroT) S) room (-1) (-1) := by
  obtain ⟨gm, es, hD, rfl, hst⟩ := nw_at h
  refine (crash_calls hD A cap tl hlen hR hRb).mono ?_
  rintro e w' ⟨he, ha⟩
  exact ⟨he, hst _ _ _ _ _ _ ha⟩
theorem nw_crash_nil (h : Nw w0 w gd n S room short fuse) :
    Calls Tryz.prog 16 #[gp gd, .slice none 0 0] w fun e w' => e = .returned (.int .i64 0) ∧ Nw w0 w' gd n (crashF (fun _ => zeroT) S) room (-1) (-1) :=
  nw_crash h none 0 [] (by simp) (fun k hk => by simp at hk) (fun ad e => by cases e)
end
end Go.Proofs.YtmlfeljhojmbbaaGreatDoor
