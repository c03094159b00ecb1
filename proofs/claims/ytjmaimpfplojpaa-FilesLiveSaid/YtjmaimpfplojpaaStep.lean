/- A call on the program's disk, and the same on the document's: the same answer, and the same files. -/
import Derived.Test.YtjmaimpfplojpaaSpoil
namespace Go.Proofs.Ytjmaimpfplojpaa
open Go.RowKit Go.Maps
set_option linter.unusedSimpArgs false
set_option linter.unusedVariables false
set_option maxRecDepth 100000

theorem u64_natS (a : Int) : ∃ n : Nat, IntKind.u64.wrap a = (n : Int) ∧ (n : Int) < 18446744073709551616 := by
  rw [IntKind.wrap_u64]
  exact ⟨(a % 18446744073709551616).toNat, by omega, by omega⟩
theorem tmod_natS (a b : Nat) (h : 0 < b) : ∃ m : Nat, m < b ∧ (a : Int).tmod (b : Int) = (m : Int) :=
  ⟨a % b, Nat.mod_lt _ h, by rw [Int.tmod_eq_emod_of_nonneg (by omega)]; simp⟩
theorem nameOk_len {s : List UInt8} (h : nameOk s = true) : s.length ≤ 32 := by
  unfold nameOk at h
  simp only [Bool.and_eq_true, decide_eq_true_eq] at h
  exact h.1.2
theorem setF_names {T : List Fl} {k b : List UInt8} {sy : Nat} (h : ∀ x ∈ T, x.1.length ≤ 32) : ∀ x ∈ setF T k b sy, x.1.length ≤ 32 := by
  intro x hx
  unfold setF at hx
  obtain ⟨y, hy, rfl⟩ := List.mem_map.1 hx
  split
  · rename_i he
    rw [← beq_iff_eq.1 he]
    exact h y hy
  · exact h y hy
theorem insF_names {T : List Fl} {x : Fl} (h : ∀ y ∈ T, y.1.length ≤ 32) (hx : x.1.length ≤ 32) : ∀ y ∈ insF x T, y.1.length ≤ 32 := by
  intro y hy
  rcases List.mem_cons.1 ((insF_perm x T).mem_iff.1 hy) with rfl | hy
  · exact hx
  · exact h y hy
theorem delF_names {T : List Fl} {k : List UInt8} (h : ∀ y ∈ T, y.1.length ≤ 32) : ∀ y ∈ delF T k, y.1.length ≤ 32 := fun y hy => h y (List.mem_filter.1 hy).1
theorem appT_names {T : List Fl} {room short fuse : Int} {s b : List UInt8} (h : ∀ x ∈ T, x.1.length ≤ 32) : ∀ x ∈ appT T room short fuse s b, x.1.length ≤ 32 := by
  unfold appT
  split
  · exact h
  · rename_i h1
    split
    · exact h
    · have hok := (chErr_ok (by simpa using h1)).1
      unfold addT
      cases hx : look T s with
      | none => exact insF_names h (nameOk_len hok)
      | some p =>
        obtain ⟨b0, sy⟩ := p
        simp only []
        rw [addF_setF hx]
        exact setF_names h
theorem appT_len {T : List Fl} {room short fuse : Int} {s b : List UInt8} : (appT T room short fuse s b).length ≤ T.length + 1 := by
  unfold appT
  split
  · omega
  · split
    · omega
    · unfold addT
      cases hx : look T s with
      | none => exact Nat.le_of_eq (insF_len _ _)
      | some p =>
        obtain ⟨b0, sy⟩ := p
        simp only []
        rw [addF_setF hx]
        unfold setF
        rw [List.length_map]
        omega
theorem syncT_len {T : List Fl} {fuse : Int} {s : List UInt8} : (syncT T s fuse).length = T.length := by
  unfold syncT
  split
  · rfl
  · cases look T s with
    | none => rfl
    | some p => simp [setF]
theorem syncT_names {T : List Fl} {fuse : Int} {s : List UInt8} (h : ∀ x ∈ T, x.1.length ≤ 32) : ∀ x ∈ syncT T s fuse, x.1.length ≤ 32 := by
  unfold syncT
  split
  · exact h
  · cases look T s with
    | none => exact h
    | some p => exact setF_names h
theorem delT_len {T : List Fl} {fuse : Int} {s : List UInt8} : (delT T s fuse).length ≤ T.length := by
  unfold delT
  split
  · exact Nat.le_refl _
  · split
    · exact List.length_filter_le _ _
    · exact Nat.le_refl _
theorem delT_names {T : List Fl} {fuse : Int} {s : List UInt8} (h : ∀ x ∈ T, x.1.length ≤ 32) : ∀ x ∈ delT T s fuse, x.1.length ≤ 32 := by
  unfold delT
  split
  · exact h
  · split
    · exact delF_names h
    · exact h
theorem cutT_len {T : List Fl} {fuse k : Int} {s : List UInt8} : (cutT T s k fuse).length = T.length := by
  unfold cutT
  split
  · rfl
  · cases look T s with
    | none => rfl
    | some p => simp [setF]
theorem cutT_names {T : List Fl} {fuse k : Int} {s : List UInt8} (h : ∀ x ∈ T, x.1.length ≤ 32) : ∀ x ∈ cutT T s k fuse, x.1.length ≤ 32 := by
  unfold cutT
  split
  · exact h
  · cases look T s with
    | none => exact h
    | some p => exact setF_names h
theorem renT_len {T : List Fl} {fuse : Int} {a z : List UInt8} : (renT T a z fuse).length ≤ T.length + 1 := by
  unfold renT
  split
  · omega
  · cases look T a with
    | none => simp
    | some p =>
      simp only [Option.elim_some]
      rw [insF_len]
      have h1 : (delF (delF T a) z).length ≤ (delF T a).length := List.length_filter_le _ _
      have h2 : (delF T a).length ≤ T.length := List.length_filter_le _ _
      omega
theorem renT_names {T : List Fl} {fuse : Int} {a z : List UInt8} (h : ∀ x ∈ T, x.1.length ≤ 32) : ∀ x ∈ renT T a z fuse, x.1.length ≤ 32 := by
  unfold renT
  split
  · exact h
  · rename_i h1
    have hok := (chErr_ok (by simpa using h1)).1
    cases look T a with
    | none => exact h
    | some p => exact insF_names (delF_names (delF_names h)) (nameOk_len hok)
theorem crashF_names {T : List Fl} {g : List UInt8 → Tl} (h : ∀ x ∈ T, x.1.length ≤ 32) : ∀ x ∈ crashF g T, x.1.length ≤ 32 := by
  intro x hx
  unfold crashF at hx
  obtain ⟨y, hy, rfl⟩ := List.mem_map.1 hx
  exact h y hy
section
variable {w0 w : World} {gd gx : Nat} {d : Ds} {T : List Fl} {N : Nat} {Z : List Nat} {H : Nat → Option Obj}
abbrev gq (g : Nat) : Value := .pointer (some ⟨g, 0, none⟩)
/-- both calls answer E -/
def Both (w0 w : World) (gd gx : Nat) (d : Ds) (T : List Fl) (N : Nat) (Z : List Nat) (H : Nat → Option Obj) (f g : FuncId) (vs : List Value) (E E' : Value) (d' : Ds) (T' : List Fl) : Prop :=
  (Calls Try.prog f (gp gd :: vs).toArray w fun e w' => e = .returned E ∧ Two w0 w' gd gx d' T d.room d.short d.fuse Z H) ∧
  ∀ w', Two w0 w' gd gx d' T d.room d.short d.fuse Z H → Calls Try.prog g (gq gx :: vs).toArray w' fun e w'' => e = .returned E' ∧ Pr w0 w'' gd gx d' T' (N + 1) Z H
theorem both_sync (h : Pr w0 w gd gx d T N Z H) (hN : N < 700000) (s : ByteArray) (hs : s.size ≤ reach) : ∃ E d' T', Both w0 w gd gx d T N Z H 18 41 [.string s] (.int .i64 E) (.int .i64 E) d' T' := by
  have hS := h.same (by omega)
  obtain ⟨h1, h2, h3, h4, h5, h6⟩ := dSync_same hS s.data.toList
  refine ⟨(dSync d s.data.toList).1, (dSync d s.data.toList).2, syncT T s.data.toList d.fuse, ?_, fun w' hw => ?_⟩
  · obtain ⟨F, hD, _, hst⟩ := h.two.prog
    exact (dd_sync hD (h.ok (by omega)) s hs).mono fun e w' ⟨he, ha⟩ => ⟨he, hst _ _ ha⟩
  · obtain ⟨G, hX, _, hst⟩ := hw.doc
    have := chFuse_range (ok := true) h.f0 h.f1
    exact (rd_sync hX hS.ok h.f0 h.f1 s).mono fun e w' ⟨he, ha⟩ => ⟨by rw [he, h1], ⟨by rw [h3, h4, h5]; exact hst _ _ _ _ _ ha, h2, syncT_rising h.rising _, by rw [syncT_len]; have := h.len; omega, by rw [h6]; have := h.n; omega, by rw [h3]; exact h.r0, by rw [h3]; exact h.r1, by rw [h4]; exact h.s0, by rw [h4]; exact h.s1, by rw [h5]; exact this.1, by rw [h5]; exact this.2, syncT_names h.names⟩⟩
theorem both_remove (h : Pr w0 w gd gx d T N Z H) (hN : N < 700000) (s : ByteArray) (hs : s.size ≤ reach) : ∃ E d' T', Both w0 w gd gx d T N Z H 22 44 [.string s] (.int .i64 E) (.int .i64 E) d' T' := by
  have hS := h.same (by omega)
  obtain ⟨h1, h2, h3, h4, h5, h6⟩ := dDel_same hS s.data.toList
  refine ⟨(dDel d s.data.toList).1, (dDel d s.data.toList).2, delT T s.data.toList d.fuse, ?_, fun w' hw => ?_⟩
  · obtain ⟨F, hD, _, hst⟩ := h.two.prog
    exact (dd_remove hD (h.ok (by omega)) s hs).mono fun e w' ⟨he, ha⟩ => ⟨he, hst _ _ ha⟩
  · obtain ⟨G, hX, _, hst⟩ := hw.doc
    have := chFuse_range (ok := true) h.f0 h.f1
    exact (rd_remove hX hS.ok h.f0 h.f1 s).mono fun e w' ⟨he, ha⟩ => ⟨by rw [he, h1], ⟨by rw [h3, h4, h5]; exact hst _ _ _ _ _ ha, h2, delT_rising h.rising _, Nat.le_trans delT_len (by have := h.len; omega), by rw [h6]; have := h.n; omega, by rw [h3]; exact h.r0, by rw [h3]; exact h.r1, by rw [h4]; exact h.s0, by rw [h4]; exact h.s1, by rw [h5]; exact this.1, by rw [h5]; exact this.2, delT_names h.names⟩⟩
theorem both_rename (h : Pr w0 w gd gx d T N Z H) (hN : N < 700000) (s t : ByteArray) (hs : s.size ≤ reach) (ht : t.size ≤ reach) : ∃ E d' T', Both w0 w gd gx d T N Z H 23 43 [.string s, .string t] (.int .i64 E) (.int .i64 E) d' T' := by
  have hS := h.same (by omega)
  obtain ⟨h1, h2, h3, h4, h5, h6⟩ := dRen_same hS s.data.toList t.data.toList
  refine ⟨(dRen d s.data.toList t.data.toList).1, (dRen d s.data.toList t.data.toList).2, renT T s.data.toList t.data.toList d.fuse, ?_, fun w' hw => ?_⟩
  · obtain ⟨F, hD, _, hst⟩ := h.two.prog
    exact (dd_rename hD (h.ok (by omega)) s t hs ht).mono fun e w' ⟨he, ha⟩ => ⟨he, hst _ _ ha⟩
  · obtain ⟨G, hX, _, hst⟩ := hw.doc
    have := chFuse_range (ok := nameOk t.data.toList) h.f0 h.f1
    exact (rd_rename hX hS.ok h.f0 h.f1 s t ht).mono fun e w' ⟨he, ha⟩ => ⟨by rw [he, h1], ⟨by rw [h3, h4, h5]; exact hst _ _ _ _ _ ha, h2, renT_rising h.rising _ _, Nat.le_trans renT_len (by have := h.len; omega), Nat.le_trans h6 (by have := h.n; omega), by rw [h3]; exact h.r0, by rw [h3]; exact h.r1, by rw [h4]; exact h.s0, by rw [h4]; exact h.s1, by rw [h5]; exact this.1, by rw [h5]; exact this.2, renT_names h.names⟩⟩
theorem both_cut (h : Pr w0 w gd gx d T N Z H) (hN : N < 700000) (s : ByteArray) (k : Int) (hs : s.size ≤ reach) : ∃ E d' T', Both w0 w gd gx d T N Z H 24 42 [.string s, .int .i64 k] (.int .i64 E) (.int .i64 E) d' T' := by
  have hS := h.same (by omega)
  obtain ⟨h1, h2, h3, h4, h5, h6⟩ := dCut_same hS s.data.toList k
  refine ⟨(dCut d s.data.toList k).1, (dCut d s.data.toList k).2, cutT T s.data.toList k d.fuse, ?_, fun w' hw => ?_⟩
  · obtain ⟨F, hD, _, hst⟩ := h.two.prog
    exact (dd_cut hD (h.ok (by omega)) s k hs).mono fun e w' ⟨he, ha⟩ => ⟨he, hst _ _ ha⟩
  · obtain ⟨G, hX, _, hst⟩ := hw.doc
    have := chFuse_range (ok := cutOkF T s.data.toList k) h.f0 h.f1
    exact (rd_cut hX hS.ok h.f0 h.f1 s k).mono fun e w' ⟨he, ha⟩ => ⟨by rw [he, h1], ⟨by rw [h3, h4, h5]; exact hst _ _ _ _ _ ha, h2, cutT_rising h.rising _ _, by rw [cutT_len]; have := h.len; omega, by rw [h6]; have := h.n; omega, by rw [h3]; exact h.r0, by rw [h3]; exact h.r1, by rw [h4]; exact h.s0, by rw [h4]; exact h.s1, by rw [h5]; exact this.1, by rw [h5]; exact this.2, cutT_names h.names⟩⟩
theorem both_short (h : Pr w0 w gd gx d T N Z H) (x : Int) (hx : x ≤ 9223372036854775807) : ∃ E d' T', Both w0 w gd gx d T N Z H 14 45 [.int .i64 x] (.int .i64 E) (.int .i64 E) d' T' := by
  refine ⟨if x < 0 then 1 else 0, { d with short := if x < 0 then d.short else x }, T, ?_, fun w' hw => ?_⟩
  · obtain ⟨F, hD, _, hst⟩ := h.two.prog
    exact (dk_short hD x).mono fun e w' ⟨he, ha⟩ => ⟨he, hst _ { d with short := if x < 0 then d.short else x } ha⟩
  · obtain ⟨G, hX, _, hst⟩ := hw.doc
    exact (rd_short hX x).mono fun e w' ⟨he, ha⟩ => ⟨he, ⟨hst _ _ _ _ _ ha, h.perm, h.rising, Nat.le_succ_of_le h.len, Nat.le_succ_of_le h.n, h.r0, h.r1, by
      show -1 ≤ (if x < 0 then d.short else x)
      have := h.s0
      split <;> omega, by
      show (if x < 0 then d.short else x) ≤ _
      have := h.s1
      split <;> omega, h.f0, h.f1, h.names⟩⟩
theorem both_fuse (h : Pr w0 w gd gx d T N Z H) (x : Int) (hx : x ≤ 9223372036854775807) : ∃ E d' T', Both w0 w gd gx d T N Z H 21 47 [.int .i64 x] (.int .i64 E) (.int .i64 E) d' T' := by
  refine ⟨if x < 0 then 1 else 0, { d with fuse := if x < 0 then d.fuse else x }, T, ?_, fun w' hw => ?_⟩
  · obtain ⟨F, hD, _, hst⟩ := h.two.prog
    exact (dk_fuse hD x).mono fun e w' ⟨he, ha⟩ => ⟨he, hst _ { d with fuse := if x < 0 then d.fuse else x } ha⟩
  · obtain ⟨G, hX, _, hst⟩ := hw.doc
    exact (rd_fuse hX x).mono fun e w' ⟨he, ha⟩ => ⟨he, ⟨hst _ _ _ _ _ ha, h.perm, h.rising, Nat.le_succ_of_le h.len, Nat.le_succ_of_le h.n, h.r0, h.r1, h.s0, h.s1, by
      show -1 ≤ (if x < 0 then d.fuse else x)
      have := h.f0
      split <;> omega, by
      show (if x < 0 then d.fuse else x) ≤ _
      have := h.f1
      split <;> omega, h.names⟩⟩
theorem both_room (h : Pr w0 w gd gx d T N Z H) (x : Int) : ∃ E d' T', Both w0 w gd gx d T N Z H 13 46 [.int .i64 x] (.int .i64 E) (.int .i64 E) d' T' := by
  refine ⟨if x < 0 ∨ 1099511627776 < x then 1 else 0, { d with room := if x < 0 ∨ 1099511627776 < x then d.room else x }, T, ?_, fun w' hw => ?_⟩
  · obtain ⟨F, hD, _, hst⟩ := h.two.prog
    exact (dk_room hD x).mono fun e w' ⟨he, ha⟩ => ⟨he, hst _ { d with room := if x < 0 ∨ 1099511627776 < x then d.room else x } ha⟩
  · obtain ⟨G, hX, _, hst⟩ := hw.doc
    exact (rd_room hX x).mono fun e w' ⟨he, ha⟩ => ⟨he, ⟨hst _ _ _ _ _ ha, h.perm, h.rising, Nat.le_succ_of_le h.len, Nat.le_succ_of_le h.n, by
      show 0 ≤ (if x < 0 ∨ 1099511627776 < x then d.room else x)
      have := h.r0
      split <;> omega, by
      show (if x < 0 ∨ 1099511627776 < x then d.room else x) ≤ _
      have := h.r1
      split <;> omega, h.s0, h.s1, h.f0, h.f1, h.names⟩⟩
theorem both_append (h : Pr w0 w gd gx d T N Z H) (hN : N < 700000) (s : ByteArray) (A A' : Option Addr) (m c c' : Nat) (b : List UInt8) (hs : s.size ≤ reach) (hr : RdB w A b) (hm : b.length = m) (hmc : m ≤ c) (hml : m ≤ reach) (hmc' : m ≤ c') :
    ∃ (n : Nat) (E : Int) (d' : Ds) (T' : List Fl), (Calls Try.prog 11 #[gp gd, .string s, .slice A m c] w fun e w' => e = .returned (.tuple #[.int .i64 (n : Int), .int .i64 E]) ∧ Two w0 w' gd gx d' T d.room d.short d.fuse Z H) ∧
      ∀ w', Two w0 w' gd gx d' T d.room d.short d.fuse Z H → RdB w' A' b → Calls Try.prog 39 #[gq gx, .string s, .slice A' m c'] w' fun e w'' => e = .returned (.tuple #[.int .i64 (n : Int), .int .i64 E]) ∧ Pr w0 w'' gd gx d' T' (N + 1) Z H := by
  have hS := h.same (by omega)
  obtain ⟨h1, h2, h3, h4, h5, h6, h7⟩ := dApp_same hS s.data.toList b
  refine ⟨(dApp d s.data.toList b).2.1, (dApp d s.data.toList b).1, (dApp d s.data.toList b).2.2, appT T d.room d.short d.fuse s.data.toList b, ?_, fun w' hw hr' => ?_⟩
  · obtain ⟨F, hD, _, hst⟩ := h.two.prog
    exact (dd_append hD (h.ok (by omega)) s A m c b hs hr hm hmc hml).mono fun e w' ⟨he, ha⟩ => ⟨he, hst _ _ ha⟩
  · obtain ⟨G, hX, _, hst⟩ := hw.doc
    have hsf : -1 ≤ (dApp d s.data.toList b).2.2.short ∧ (dApp d s.data.toList b).2.2.short ≤ 9223372036854775807 ∧ -1 ≤ (dApp d s.data.toList b).2.2.fuse ∧ (dApp d s.data.toList b).2.2.fuse ≤ 9223372036854775807 := by
      have e1 := chFuse_range (ok := nameOk s.data.toList) h.f0 h.f1
      have e2 := chFuse_range (ok := true) h.f0 h.f1
      have e3 := h.s0
      have e4 := h.s1
      unfold dApp
      split
      · exact ⟨e3, e4, e1.1, e1.2⟩
      · split
        · exact ⟨by simp, by simp, e2.1, e2.2⟩
        · exact ⟨by simp, by simp, e2.1, e2.2⟩
    exact (rd_append hX hS.ok h.r0 h.r1 h.s0 h.s1 h.f0 h.f1 s A' m c' b hs hr' hm hmc' hml).mono fun e w' ⟨he, ha⟩ => ⟨by rw [he, ← h1, ← h2], ⟨by rw [h5, h3, h4]; exact hst _ _ _ _ _ ha, h7, appT_rising h.rising _ _, Nat.le_trans appT_len (by have := h.len; omega), Nat.le_trans h6 (by have := h.n; omega), by rw [h5]; exact h.r0, by rw [h5]; exact h.r1, hsf.1, hsf.2.1, hsf.2.2.1, hsf.2.2.2, appT_names h.names⟩⟩
/-- a crash of both: the document's first -/
theorem both_crash (h : Pr w0 w gd gx d T N Z H) (hN : N < 700000) (A : Option Addr) (cap : Nat) (tl : List Tl) (hlen : tl.length < 9000000000000) (hR : RdT w0 A tl) (hA : ∀ ad, A = some ad → tl ≠ [] → ad.block < w0.heap.size) :
    ∃ (d' : Ds) (T' : List Fl), (Calls Try.prog 48 #[gq gx, .slice A tl.length cap] w fun e w' => e = .returned (.tuple #[]) ∧ Two w0 w' gd gx d T' d.room (-1) (-1) Z H) ∧
      ∀ w', Two w0 w' gd gx d T' d.room (-1) (-1) Z H → Calls Try.prog 19 #[gp gd, .slice A tl.length cap] w' fun e w'' => e = .returned (.int .i64 0) ∧ Pr w0 w'' gd gx d' T' (N + 1) Z H := by
  have hS := h.same (by omega)
  refine ⟨dCrash d tl, crashF (fun s => (tailOf tl s).getD zeroT) T, ?_, fun w' hw => ?_⟩
  · obtain ⟨G, hX, hG, hst⟩ := h.two.doc
    refine (rd_crash hX hS.ok A cap tl hlen (hR.below h.two.below hA) (fun ad h1 h2 => ⟨Nat.lt_of_lt_of_le (hA ad h1 h2) h.two.below.size, fun hc => ?_⟩)).mono fun e w' ⟨he, ha⟩ => ⟨he, hst _ _ _ _ _ ha⟩
    have := (hG _ hc).1
    have := hA ad h1 h2
    omega
  · obtain ⟨F, hD, _, hst⟩ := hw.prog
    obtain ⟨gm, es, hE, hES, hF⟩ := hD
    refine (crash_calls hE A cap tl hlen (hR.below hw.below hA) (fun ad h1 h2 => Nat.lt_of_lt_of_le (hA ad h1 h2) hw.below.size)).mono ?_
    rintro e w'' ⟨he, ha⟩
    refine ⟨he, ⟨?_, h.perm.map _, crashF_rising _ h.rising, by unfold crashF; rw [List.length_map]; exact Nat.le_succ_of_le h.len, Nat.le_succ_of_le h.n, h.r0, h.r1, (show (-1 : Int) ≤ -1 by decide), (show (-1 : Int) ≤ 9223372036854775807 by decide), (show (-1 : Int) ≤ -1 by decide), (show (-1 : Int) ≤ 9223372036854775807 by decide), crashF_names h.names⟩⟩
    refine hst w'' (dCrash d tl) ?_
    have h9 := Stp.of_after ha hF
    rw [hES] at h9
    exact h9
end
end Go.Proofs.Ytjmaimpfplojpaa
