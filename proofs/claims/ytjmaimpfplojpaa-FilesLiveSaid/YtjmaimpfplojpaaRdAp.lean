/- Walk: the document's disk: Append. -/
import Derived.Test.YtjmaimpfplojpaaRd7
import Derived.BigQuiet
import Derived.Deep.RegionHeld3
namespace Go.Proofs.Ytjmaimpfplojpaa
open Go.RowKit Go.Maps
set_option linter.unusedSimpArgs false
set_option linter.unusedVariables false
set_option maxRecDepth 100000

section
variable {w : World} {gx : Nat} {v : Value} {R : List RF} {room short fuse : Int}
theorem rappend_bad (s : ByteArray) (A : Option Addr) (m c : Nat) (hs : s.size ≤ reach) (hok : nameOk s.data.toList = false) (w : World) :
    Calls Try.prog 39 #[.pointer (some ⟨gx, 0, none⟩), .string s, .slice A m c] w fun e w' => e = .returned (.tuple #[.int .i64 0, .int .i64 1]) ∧ w = w' := by
  have HN := Shut.mk (risName_calls s w hs)
  rw [hok] at HN
  clear hok hs
  go_enter Try.func39, Try.ntmps39
  go_wp2_with fail
  refine HN.out.mono ?_
  rintro e w1 ⟨rfl, rfl⟩
  go_wp2_with fail
  go_ret2
  exact ⟨rfl, rfl⟩
theorem rappend_dead (hR : RdAt w gx v R room short 0) (s : ByteArray) (A : Option Addr) (m c : Nat) (hs : s.size ≤ reach) (hok : nameOk s.data.toList = true) :
    Calls Try.prog 39 #[.pointer (some ⟨gx, 0, none⟩), .string s, .slice A m c] w fun e w' => e = .returned (.tuple #[.int .i64 0, .int .i64 62]) ∧ RdAt w' gx v R room short 0 ∧ Kb w w' [gx] := by
  have HN := Shut.mk (risName_calls s w hs)
  have HB := Shut.mk (burn_calls hR (by omega) (by omega))
  rw [hok] at HN
  clear hok hs hR
  go_enter Try.func39, Try.ntmps39
  go_wp2_with fail
  refine HN.out.mono ?_
  rintro e w1 ⟨rfl, rfl⟩
  go_wp2_with fail
  refine HB.out.mono ?_
  rintro e w1 ⟨rfl, hR1, hk1⟩
  have h0 : decide ((0 : Int) ≠ 0) = false := rfl
  rw [h0]
  have HR1 := Shut.mk hR1
  have HK1 := Shut.mk hk1
  clear hR1 hk1
  go_wp2_with fail
  go_ret2
  exact ⟨rfl, HR1.out, HK1.out⟩
set_option maxHeartbeats 2000000 in
theorem rappend_no1 (hR : RdAt w gx v R room (-1) fuse) (hp : (R.map RF.fl).Pairwise fun a b => a.1 ≠ b.1) (hl : R.length < 900000) (hu : usedR R ≤ 1099511627776) (s : ByteArray) (A : Option Addr) (m c : Nat) (b : List UInt8) (hs : s.size ≤ reach) (f0 : -1 ≤ fuse) (f1 : fuse ≤ 9223372036854775807) (hok : nameOk s.data.toList = true) (hf : fuse ≠ 0)
    (hr : RdB w A b) (hm : b.length = m) (hmc : m ≤ c) (hml : m ≤ reach) (hr1 : 0 ≤ room) (hr2 : room ≤ 1099511627776) {x : RF} (hx : R[idxD R s.data.toList]? = some x) (hA : 1048576 < x.b.length + m) :
    Calls Try.prog 39 #[.pointer (some ⟨gx, 0, none⟩), .string s, .slice A m c] w fun e w' => e = .returned (.tuple #[.int .i64 0, .int .i64 4]) ∧ AfterD w w' gx v R (R.map RF.fl) room (-1) (chFuse true fuse) := by
  obtain ⟨i0, hi0, hz0, hz1, hz2⟩ := info_parts info_u8
  have HN := Shut.mk (risName_calls s w hs)
  rw [hok] at HN
  have HB := Shut.mk (burn_calls hR f0 f1)
  rw [decide_eq_true hf] at HB
  generalize chFuse true fuse = fu at HB ⊢
  have HP := Shut.mk hp
  have HX := Shut.mk hx
  have HROW := Shut.mk hR.row_ne
  have HOWN := Shut.mk (fun (c : RF) (hc : c ∈ R) => hR.own_ne hc)
  have HLT := Shut.mk hR.blk.lt
  have HR0 := Shut.mk hr
  have HBM := Shut.mk hm
  have HRK := Shut.mk (fun (w' : World) (h : Kb w w' [gx]) => rdB_gx hR HR0.out h)
  have HLE := Shut.mk (fun c (hc : c ∈ R) => usedR_mem hc)
  unfold reach at hml
  have hi : idxD R s.data.toList < R.length := (List.getElem?_eq_some_iff.1 hx).1
  have hpv : placeV R s.data.toList = (idxD R s.data.toList : Int) := by simp [placeV, hi]
  have hxm := List.mem_of_getElem? hx
  have HXM := Shut.mk hxm
  have hxu := usedR_mem hxm
  have HKX := Shut.mk (show x.k.data.toList = s.data.toList by obtain ⟨c', h1, h2⟩ := rf_at hi; rw [hx] at h1; injection h1 with h1; rw [h1]; exact h2)
  obtain ⟨NX, hNX⟩ : ∃ NX, NX = x.b.length := ⟨_, rfl⟩
  rw [← hNX] at hA hxu
  have HNX := Shut.mk hNX
  obtain ⟨k, hk⟩ : ∃ k, k = idxD R s.data.toList := ⟨_, rfl⟩
  rw [← hk] at hpv hi HX
  clear hxm hNX hk
  have HPV := Shut.mk hpv
  have HRL := Shut.mk (fun (h : R.length < 900000) => h)
  clear hok hs hf hr hm hR hp hx hpv
  go_enter Try.func39, Try.ntmps39
  go_wp2_with fail
  refine HN.out.mono ?_
  rintro e w1 ⟨rfl, rfl⟩
  go_wp2_with fail
  refine HB.out.mono ?_
  rintro e w2 ⟨rfl, hR2, hk2⟩
  have q2 : w2.cell? ⟨gx, 2, none⟩ = some (.int .i64 (-1)) := hR2.blk.cell 2
  have f2 := hR2.blk.free 2
  have HR3 := Shut.mk (hR2.num 2 (.int .i64 (-1)) (room' := room) (short' := -1) (fuse' := fu) rfl)
  have HK3 := Shut.mk (hk2.setCell (p := ⟨gx, 2, none⟩) (by simp) (.int .i64 (-1)))
  clear hk2 HB HN hR2
  go_wp2_with fail
  generalize w2.setCell ⟨gx, 2, none⟩ (.int .i64 (-1)) = w3 at HR3 HK3 ⊢
  have HPL := Shut.mk (dplace_calls HR3.out s (by omega))
  rw [HPV.out] at HPL
  clear q2 f2
  refine HPL.out.mono ?_
  rintro e w4 ⟨rfl, hb4⟩
  have HR4 := Shut.mk (HR3.out.below hb4)
  have HK4 := Shut.mk (HK3.out.below_ hb4)
  clear hb4 HPL HR3 HK3
  have s1 : w4.cell? ⟨gx, 1, none⟩ = some (.int .i64 room) := HR4.out.blk.cell 1
  have hgx := World.block_lt_of_cell? _ _ s1
  obtain ⟨g, cap, hv, hnc, hcm, hcell⟩ := HR4.out.head (by omega)
  obtain ⟨N, hN⟩ : ∃ N, N = R.length := ⟨_, rfl⟩
  rw [← hN] at hi hl hv hnc
  have HN := Shut.mk hN
  unfold maxLen at hcm
  have c1 : w4.cell? ⟨g, k * 3 + 1, none⟩ = some (.slice x.A NX x.cp) := by rw [HNX.out]; exact hcell (k * 3 + 1) _ (rfs_get HX.out 1 (by omega))
  have c0 : w4.cell? ⟨gx, 0, none⟩ = some (.slice (some ⟨g, 0, none⟩) N cap) := by rw [← hv]; exact HR4.out.blk.cell 0
  have HV := Shut.mk hv
  have hkI : (k : Int) < (N : Int) := by omega
  have hk0 : (k : Int) ≥ 0 := by omega
  have hk0' : ¬ (k : Int) < 0 := by omega
  clear hv hN hcell
  go_wp2_with fail
  have hw1 : IntKind.i64.wrap ((NX : Int) + (m : Int)) = (NX : Int) + (m : Int) := by rw [IntKind.wrap_i64]; omega
  have d1 : decide ((1048576 : Int) < (NX : Int) + (m : Int)) = true := decide_eq_true (by omega)
  go_quiet (fail)
  go_wp2_with fail
  go_ret2
  exact ⟨rfl, AfterD.num (HR4.out.below ⟨rfl, rfl, rfl, Nat.le_refl _, fun _ _ => rfl⟩) (HK4.out.below_ ⟨rfl, rfl, rfl, Nat.le_refl _, fun _ _ => rfl⟩)⟩
set_option maxHeartbeats 2000000 in
theorem rappend_no2 (hR : RdAt w gx v R room (-1) fuse) (hp : (R.map RF.fl).Pairwise fun a b => a.1 ≠ b.1) (hl : R.length < 900000) (hu : usedR R ≤ 1099511627776) (s : ByteArray) (A : Option Addr) (m c : Nat) (b : List UInt8) (hs : s.size ≤ reach) (f0 : -1 ≤ fuse) (f1 : fuse ≤ 9223372036854775807) (hok : nameOk s.data.toList = true) (hf : fuse ≠ 0)
    (hr : RdB w A b) (hm : b.length = m) (hmc : m ≤ c) (hml : m ≤ reach) (hr1 : 0 ≤ room) (hr2 : room ≤ 1099511627776) {x : RF} (hx : R[idxD R s.data.toList]? = some x) (hA : x.b.length + m ≤ 1048576) (hB : room < usedR R + m) :
    Calls Try.prog 39 #[.pointer (some ⟨gx, 0, none⟩), .string s, .slice A m c] w fun e w' => e = .returned (.tuple #[.int .i64 0, .int .i64 4]) ∧ AfterD w w' gx v R (R.map RF.fl) room (-1) (chFuse true fuse) := by
  obtain ⟨i0, hi0, hz0, hz1, hz2⟩ := info_parts info_u8
  have HN := Shut.mk (risName_calls s w hs)
  rw [hok] at HN
  have HB := Shut.mk (burn_calls hR f0 f1)
  rw [decide_eq_true hf] at HB
  generalize chFuse true fuse = fu at HB ⊢
  have HP := Shut.mk hp
  have HX := Shut.mk hx
  have HROW := Shut.mk hR.row_ne
  have HOWN := Shut.mk (fun (c : RF) (hc : c ∈ R) => hR.own_ne hc)
  have HLT := Shut.mk hR.blk.lt
  have HR0 := Shut.mk hr
  have HBM := Shut.mk hm
  have HRK := Shut.mk (fun (w' : World) (h : Kb w w' [gx]) => rdB_gx hR HR0.out h)
  have HLE := Shut.mk (fun c (hc : c ∈ R) => usedR_mem hc)
  unfold reach at hml
  have hi : idxD R s.data.toList < R.length := (List.getElem?_eq_some_iff.1 hx).1
  have hpv : placeV R s.data.toList = (idxD R s.data.toList : Int) := by simp [placeV, hi]
  have hxm := List.mem_of_getElem? hx
  have HXM := Shut.mk hxm
  have hxu := usedR_mem hxm
  have HKX := Shut.mk (show x.k.data.toList = s.data.toList by obtain ⟨c', h1, h2⟩ := rf_at hi; rw [hx] at h1; injection h1 with h1; rw [h1]; exact h2)
  obtain ⟨NX, hNX⟩ : ∃ NX, NX = x.b.length := ⟨_, rfl⟩
  rw [← hNX] at hA hxu
  have HNX := Shut.mk hNX
  obtain ⟨k, hk⟩ : ∃ k, k = idxD R s.data.toList := ⟨_, rfl⟩
  rw [← hk] at hpv hi HX
  clear hxm hNX hk
  have HPV := Shut.mk hpv
  have HRL := Shut.mk (fun (h : R.length < 900000) => h)
  clear hok hs hf hr hm hR hp hx hpv
  go_enter Try.func39, Try.ntmps39
  go_wp2_with fail
  refine HN.out.mono ?_
  rintro e w1 ⟨rfl, rfl⟩
  go_wp2_with fail
  refine HB.out.mono ?_
  rintro e w2 ⟨rfl, hR2, hk2⟩
  have q2 : w2.cell? ⟨gx, 2, none⟩ = some (.int .i64 (-1)) := hR2.blk.cell 2
  have f2 := hR2.blk.free 2
  have HR3 := Shut.mk (hR2.num 2 (.int .i64 (-1)) (room' := room) (short' := -1) (fuse' := fu) rfl)
  have HK3 := Shut.mk (hk2.setCell (p := ⟨gx, 2, none⟩) (by simp) (.int .i64 (-1)))
  clear hk2 HB HN hR2
  go_wp2_with fail
  generalize w2.setCell ⟨gx, 2, none⟩ (.int .i64 (-1)) = w3 at HR3 HK3 ⊢
  have HPL := Shut.mk (dplace_calls HR3.out s (by omega))
  rw [HPV.out] at HPL
  clear q2 f2
  refine HPL.out.mono ?_
  rintro e w4 ⟨rfl, hb4⟩
  have HR4 := Shut.mk (HR3.out.below hb4)
  have HK4 := Shut.mk (HK3.out.below_ hb4)
  clear hb4 HPL HR3 HK3
  have s1 : w4.cell? ⟨gx, 1, none⟩ = some (.int .i64 room) := HR4.out.blk.cell 1
  have hgx := World.block_lt_of_cell? _ _ s1
  obtain ⟨g, cap, hv, hnc, hcm, hcell⟩ := HR4.out.head (by omega)
  obtain ⟨N, hN⟩ : ∃ N, N = R.length := ⟨_, rfl⟩
  rw [← hN] at hi hl hv hnc
  have HN := Shut.mk hN
  unfold maxLen at hcm
  have c1 : w4.cell? ⟨g, k * 3 + 1, none⟩ = some (.slice x.A NX x.cp) := by rw [HNX.out]; exact hcell (k * 3 + 1) _ (rfs_get HX.out 1 (by omega))
  have c0 : w4.cell? ⟨gx, 0, none⟩ = some (.slice (some ⟨g, 0, none⟩) N cap) := by rw [← hv]; exact HR4.out.blk.cell 0
  have HV := Shut.mk hv
  have hkI : (k : Int) < (N : Int) := by omega
  have hk0 : (k : Int) ≥ 0 := by omega
  have hk0' : ¬ (k : Int) < 0 := by omega
  clear hv hN hcell
  go_wp2_with fail
  have hw1 : IntKind.i64.wrap ((NX : Int) + (m : Int)) = (NX : Int) + (m : Int) := by rw [IntKind.wrap_i64]; omega
  have d1 : decide ((1048576 : Int) < (NX : Int) + (m : Int)) = false := decide_eq_false (by omega)
  have HU0 := Shut.mk (rused_calls (w := w4.drew) (HR4.out.below ⟨rfl, rfl, rfl, Nat.le_refl _, fun _ _ => rfl⟩) (by rw [← HN.out]; omega) hu)
  have hw2 : IntKind.i64.wrap ((usedR R : Int) + (m : Int)) = (usedR R : Int) + (m : Int) := by rw [IntKind.wrap_i64]; omega
  have d2 : decide (room < (usedR R : Int) + (m : Int)) = true := decide_eq_true (by omega)
  go_region_held3 (fun w' => w'.cell? ⟨gx, 1, none⟩ = some (.int .i64 room))
    (first | exact s1 | exact t1 | go_keep)
    (first | (go_at_call 50; refine HU0.out.mono ?_; rintro e w5 ⟨rfl, hb5⟩; have t1 := (hb5.cell hgx).trans s1))
  have hb5' := below_of_drew hb5
  have HR5 := Shut.mk (HR4.out.below hb5')
  have HK5 := Shut.mk (HK4.out.below_ hb5')
  clear hb5 HU0
  go_wp2_with fail
  go_ret2
  exact ⟨rfl, AfterD.num HR5.out HK5.out⟩
set_option maxHeartbeats 2000000 in
theorem rappend_no3 (hR : RdAt w gx v R room (-1) fuse) (hp : (R.map RF.fl).Pairwise fun a b => a.1 ≠ b.1) (hl : R.length < 900000) (hu : usedR R ≤ 1099511627776) (s : ByteArray) (A : Option Addr) (m c : Nat) (b : List UInt8) (hs : s.size ≤ reach) (f0 : -1 ≤ fuse) (f1 : fuse ≤ 9223372036854775807) (hok : nameOk s.data.toList = true) (hf : fuse ≠ 0)
    (hr : RdB w A b) (hm : b.length = m) (hmc : m ≤ c) (hml : m ≤ reach) (hr1 : 0 ≤ room) (hr2 : room ≤ 1099511627776) {x : RF} (hx : R[idxD R s.data.toList]? = some x) (hA : x.b.length + m ≤ 1048576) (hB : usedR R + m ≤ room) :
    Calls Try.prog 39 #[.pointer (some ⟨gx, 0, none⟩), .string s, .slice A m c] w fun e w' => e = .returned (.tuple #[.int .i64 (m : Int), .int .i64 0]) ∧ AfterD w w' gx v R (setF (R.map RF.fl) s.data.toList (x.b ++ b) x.syn) room (-1) (chFuse true fuse) := by
  obtain ⟨i0, hi0, hz0, hz1, hz2⟩ := info_parts info_u8
  have HN := Shut.mk (risName_calls s w hs)
  rw [hok] at HN
  have HB := Shut.mk (burn_calls hR f0 f1)
  rw [decide_eq_true hf] at HB
  generalize chFuse true fuse = fu at HB ⊢
  have HP := Shut.mk hp
  have HX := Shut.mk hx
  have HROW := Shut.mk hR.row_ne
  have HOWN := Shut.mk (fun (c : RF) (hc : c ∈ R) => hR.own_ne hc)
  have HLT := Shut.mk hR.blk.lt
  have HR0 := Shut.mk hr
  have HBM := Shut.mk hm
  have HRK := Shut.mk (fun (w' : World) (h : Kb w w' [gx]) => rdB_gx hR HR0.out h)
  have HLE := Shut.mk (fun c (hc : c ∈ R) => usedR_mem hc)
  unfold reach at hml
  have hi : idxD R s.data.toList < R.length := (List.getElem?_eq_some_iff.1 hx).1
  have hpv : placeV R s.data.toList = (idxD R s.data.toList : Int) := by simp [placeV, hi]
  have hxm := List.mem_of_getElem? hx
  have HXM := Shut.mk hxm
  have hxu := usedR_mem hxm
  have HKX := Shut.mk (show x.k.data.toList = s.data.toList by obtain ⟨c', h1, h2⟩ := rf_at hi; rw [hx] at h1; injection h1 with h1; rw [h1]; exact h2)
  obtain ⟨NX, hNX⟩ : ∃ NX, NX = x.b.length := ⟨_, rfl⟩
  rw [← hNX] at hA hxu
  have HNX := Shut.mk hNX
  obtain ⟨k, hk⟩ : ∃ k, k = idxD R s.data.toList := ⟨_, rfl⟩
  rw [← hk] at hpv hi HX
  clear hxm hNX hk
  have HPV := Shut.mk hpv
  have HRL := Shut.mk (fun (h : R.length < 900000) => h)
  clear hok hs hf hr hm hR hp hx hpv
  go_enter Try.func39, Try.ntmps39
  go_wp2_with fail
  refine HN.out.mono ?_
  rintro e w1 ⟨rfl, rfl⟩
  go_wp2_with fail
  refine HB.out.mono ?_
  rintro e w2 ⟨rfl, hR2, hk2⟩
  have q2 : w2.cell? ⟨gx, 2, none⟩ = some (.int .i64 (-1)) := hR2.blk.cell 2
  have f2 := hR2.blk.free 2
  have HR3 := Shut.mk (hR2.num 2 (.int .i64 (-1)) (room' := room) (short' := -1) (fuse' := fu) rfl)
  have HK3 := Shut.mk (hk2.setCell (p := ⟨gx, 2, none⟩) (by simp) (.int .i64 (-1)))
  clear hk2 HB HN hR2
  go_wp2_with fail
  generalize w2.setCell ⟨gx, 2, none⟩ (.int .i64 (-1)) = w3 at HR3 HK3 ⊢
  have HPL := Shut.mk (dplace_calls HR3.out s (by omega))
  rw [HPV.out] at HPL
  clear q2 f2
  refine HPL.out.mono ?_
  rintro e w4 ⟨rfl, hb4⟩
  have HR4 := Shut.mk (HR3.out.below hb4)
  have HK4 := Shut.mk (HK3.out.below_ hb4)
  clear hb4 HPL HR3 HK3
  have s1 : w4.cell? ⟨gx, 1, none⟩ = some (.int .i64 room) := HR4.out.blk.cell 1
  have hgx := World.block_lt_of_cell? _ _ s1
  obtain ⟨g, cap, hv, hnc, hcm, hcell⟩ := HR4.out.head (by omega)
  obtain ⟨N, hN⟩ : ∃ N, N = R.length := ⟨_, rfl⟩
  rw [← hN] at hi hl hv hnc
  have HN := Shut.mk hN
  unfold maxLen at hcm
  have c1 : w4.cell? ⟨g, k * 3 + 1, none⟩ = some (.slice x.A NX x.cp) := by rw [HNX.out]; exact hcell (k * 3 + 1) _ (rfs_get HX.out 1 (by omega))
  have c0 : w4.cell? ⟨gx, 0, none⟩ = some (.slice (some ⟨g, 0, none⟩) N cap) := by rw [← hv]; exact HR4.out.blk.cell 0
  have HV := Shut.mk hv
  have hkI : (k : Int) < (N : Int) := by omega
  have hk0 : (k : Int) ≥ 0 := by omega
  have hk0' : ¬ (k : Int) < 0 := by omega
  clear hv hN hcell
  go_wp2_with fail
  have hw1 : IntKind.i64.wrap ((NX : Int) + (m : Int)) = (NX : Int) + (m : Int) := by rw [IntKind.wrap_i64]; omega
  have d1 : decide ((1048576 : Int) < (NX : Int) + (m : Int)) = false := decide_eq_false (by omega)
  have HU0 := Shut.mk (rused_calls (w := w4.drew) (HR4.out.below ⟨rfl, rfl, rfl, Nat.le_refl _, fun _ _ => rfl⟩) (by rw [← HN.out]; omega) hu)
  have hw2 : IntKind.i64.wrap ((usedR R : Int) + (m : Int)) = (usedR R : Int) + (m : Int) := by rw [IntKind.wrap_i64]; omega
  have d2 : decide (room < (usedR R : Int) + (m : Int)) = false := decide_eq_false (by omega)
  go_region_held3 (fun w' => w'.cell? ⟨gx, 1, none⟩ = some (.int .i64 room))
    (first | exact s1 | exact t1 | go_keep)
    (first | (go_at_call 50; refine HU0.out.mono ?_; rintro e w5 ⟨rfl, hb5⟩; have t1 := (hb5.cell hgx).trans s1))
  have hb5' := below_of_drew hb5
  have HR5 := Shut.mk (HR4.out.below hb5')
  have HK5 := Shut.mk (HK4.out.below_ hb5')
  clear hb5 HU0
  have e0 : w5.cell? ⟨gx, 0, none⟩ = some (.slice (some ⟨g, 0, none⟩) N cap) := (hb5'.cell (World.block_lt_of_cell? _ _ c0)).trans c0
  have e1 : w5.cell? ⟨g, k * 3 + 1, none⟩ = some (.slice x.A NX x.cp) := (hb5'.cell (World.block_lt_of_cell? _ _ c1)).trans c1
  clear hb5' c0 c1 s1 t1 HR4 HK4
  have c0 := e0
  have c1 := e1
  clear e0 e1
  have hgl := World.block_lt_of_cell? _ _ c1
  have hgx7 := World.block_lt_of_cell? _ _ c0
  have HRB := Shut.mk (HRK.out _ HK5.out)
  have hba : Below w5.heap.size w5 (w5.alloc (.cells #[] 5)).drew := by have := (Below.refl _ w5).alloc (Nat.le_refl _) (.cells #[] 5); exact ⟨this.os, this.tape, this.output, this.size, this.block⟩
  have d0 : (w5.alloc (.cells #[] 5)).cell? ⟨gx, 0, none⟩ = some (.slice (some ⟨g, 0, none⟩) N cap) := (World.cell?_alloc_lt w5 _ _ (World.block_lt_of_cell? w5 _ c0)).trans c0
  have d2 : (w5.alloc (.cells #[] 5)).cell? ⟨g, k * 3 + 1, none⟩ = some (.slice x.A NX x.cp) := (World.cell?_alloc_lt w5 _ _ (World.block_lt_of_cell? w5 _ c1)).trans c1
  have HOE := Shut.mk (show Own (w5.alloc (.cells #[] 5)).drew 5 1 (.slice (some ⟨w5.heap.size, 0, none⟩) 0 0) 0 [] from own_empty w5 _ _)
  have HOC := Shut.mk (HR5.out.rows x HXM.out)
  have HRC := Shut.mk (show Rd (w5.alloc (.cells #[] 5)).drew x.A (bys x.b) from by
    have h9 := HOC.out.below hba fun g hg => HOC.out.block_lt hg
    obtain ⟨A9, c9, e9, h8, _⟩ := h9.form
    have : x.A = A9 := by unfold RF.v at e9; injection e9
    rw [this]
    exact h8)
  have HCL := Shut.mk (show (bys x.b).length = NX * 1 by rw [bys_length, HNX.out, Nat.mul_one])
  have HBL := Shut.mk (show (bys b).length = m * 1 by rw [bys_length, HBM.out, Nat.mul_one])
  have HBA := Shut.mk hba
  have HC1 := Shut.mk c1
  have HC0 := Shut.mk c0
  clear hba
  go_wp2_with fail
  go_region_law (first
    | (refine step_append _ (by rfl) _ _ _ (by rfl) 5 i0 _ 1 1 Try.underlying28 hi0 hz0 hz1 hz2 rfl (by decide) _ _ _ (by rfl) HOE.out _ NX (x.cp) _ (by rfl) HCL.out HRC.out (bys_one _) (by simp only [maxLen]; omega) (by omega) ?_
       intro v8 w8 hap
       obtain ⟨A8, c8, hv8, _⟩ := hap.own.form
       rw [Nat.zero_add] at hv8
       subst hv8
       have HO8 := Shut.mk (hap.own.cast (Nat.zero_add NX) (List.nil_append _))
       have hb8 : Below w5.heap.size w5 w8 := HBA.out.grown hap.grown (by have := HBA.out.size; exact this) (fun r hr => by cases hr; exact Nat.le_refl _)
       have hl8 : ∀ g', (Value.slice A8 NX c8).ownBlock = some g' → w5.heap.size ≤ g' := fun g' hg' => by
         rcases hap.lies with h | h
         · rw [h] at hg'; cases hg'; exact Nat.le_refl _
         · rw [h] at hg'; injection hg' with hg'; rw [← hg']; exact HBA.out.size
       have e0 : w8.cell? ⟨gx, 0, none⟩ = some (.slice (some ⟨g, 0, none⟩) N cap) := (hb8.cell hgx7).trans HC0.out
       have e2 := (hb8.cell hgl).trans HC1.out
       have hR8 := rd_of_rdB (HRB.out.keep hb8)
       have HR8 := Shut.mk hR8
       have HB8 := Shut.mk hb8
       have HL8 := Shut.mk hl8
       clear hap hb8 hl8 hR8)
    | (refine step_append _ (by rfl) _ _ _ (by rfl) 5 i0 _ 1 1 Try.underlying28 hi0 hz0 hz1 hz2 rfl (by decide) _ _ _ (by rfl) HO8.out _ m c _ (by rfl) HBL.out HR8.out (bys_one _) (by simp only [maxLen]; omega) (by omega) ?_
       intro v9 w9 hap
       obtain ⟨A9, c9, hv9, _⟩ := hap.own.form
       skip
       subst hv9
       have HO9 := Shut.mk (hap.own.cast (n' := NX + m) (by rfl) rfl)
       have hb9 : Below w5.heap.size w5 w9 := HB8.out.grown hap.grown HB8.out.size (fun r hr => HL8.out r hr)
       have hl9 : ∀ g', (Value.slice A9 (NX + m) c9).ownBlock = some g' → w5.heap.size ≤ g' := fun g' hg' => by
         rcases hap.lies with h | h
         · rw [h] at hg'; exact HL8.out g' hg'
         · rw [h] at hg'; injection hg' with hg'; rw [← hg']; exact HB8.out.size
       have hRn := HR5.out.below hb9
       have e0 : w9.cell? ⟨gx, 0, none⟩ = some (.slice (some ⟨g, 0, none⟩) N cap) := by rw [← HV.out]; exact hRn.blk.cell 0
       have ef : w9.frozen? ⟨g, k * 3 + 1, none⟩ = false := by
         have := hRn.own
         rw [HV.out] at this
         rw [← HN.out] at this
         exact this.freeAt _
       have e2 := (hb9.cell hgl).trans HC1.out
       have HRN := Shut.mk hRn
       have HB9 := Shut.mk hb9
       have HL9 := Shut.mk hl9
       clear hap hb9 hl9 hRn))
  all_goals (
    have e9 : (Value.slice A9 (NX + m) c9) = .slice A9 (x.b ++ b).length c9 := by rw [List.length_append, HBM.out, HNX.out]; try first | rfl | (simp; done)
    have hT := HRN.out.turnb HX.out HV.out (A := A9) (cp := c9) (b := x.b ++ b) (by rw [← e9]; exact HO9.out.cast (by rw [List.length_append, HBM.out, HNX.out]; try first | rfl | (simp; done)) (bys_append _ _).symm)
    have hK : Kb w (w9.setCell ⟨g, k * 3 + 1, none⟩ (.slice A9 (x.b ++ b).length c9)) (footD gx v R) := ((HK5.out.mono (L' := footD gx v R) (by simp [footD])).below_ HB9.out).setCell (by simp [footD, HV.out, Value.ownBlock]) _
    rw [e9]
    generalize w9.setCell ⟨g, k * 3 + 1, none⟩ (.slice A9 (x.b ++ b).length c9) = w10 at hT hK ⊢
    have HL10 := Shut.mk (e9 ▸ HL9.out)
    have HT := Shut.mk hT
    have HK := Shut.mk hK
    clear hT hK
    go_wp2_with fail
    go_ret2
    refine ⟨rfl, AfterD.set HT.out (by
      have h9 := set_fl HP.out HX.out (y := ⟨x.k, A9, c9, x.b ++ b, x.syn⟩) rfl
      rw [HKX.out] at h9
      exact h9) HK.out (fun g hg => .inl hg) (fun c hc g' hg' => ?_)⟩
    rcases List.mem_or_eq_of_mem_set hc with hc | rfl
    · exact .inl (footD_own hc hg')
    · exact .inr (Nat.le_trans HK5.out.size (HL10.out g' hg')))
set_option maxHeartbeats 2000000 in
theorem rappend_nn1 (hR : RdAt w gx v R room (-1) fuse) (hp : (R.map RF.fl).Pairwise fun a b => a.1 ≠ b.1) (hl : R.length < 900000) (hu : usedR R ≤ 1099511627776) (s : ByteArray) (A : Option Addr) (m c : Nat) (b : List UInt8) (hs : s.size ≤ reach) (f0 : -1 ≤ fuse) (f1 : fuse ≤ 9223372036854775807) (hok : nameOk s.data.toList = true) (hf : fuse ≠ 0)
    (hr : RdB w A b) (hm : b.length = m) (hmc : m ≤ c) (hml : m ≤ reach) (hr1 : 0 ≤ room) (hr2 : room ≤ 1099511627776) (hx : ¬ idxD R s.data.toList < R.length) (hA : 1048576 < 0 + m) :
    Calls Try.prog 39 #[.pointer (some ⟨gx, 0, none⟩), .string s, .slice A m c] w fun e w' => e = .returned (.tuple #[.int .i64 0, .int .i64 4]) ∧ AfterD w w' gx v R (R.map RF.fl) room (-1) (chFuse true fuse) := by
  obtain ⟨i0, hi0, hz0, hz1, hz2⟩ := info_parts info_u8
  have HN := Shut.mk (risName_calls s w hs)
  rw [hok] at HN
  have HB := Shut.mk (burn_calls hR f0 f1)
  rw [decide_eq_true hf] at HB
  generalize chFuse true fuse = fu at HB ⊢
  have HP := Shut.mk hp
  have HX := Shut.mk hx
  have HROW := Shut.mk hR.row_ne
  have HOWN := Shut.mk (fun (c : RF) (hc : c ∈ R) => hR.own_ne hc)
  have HLT := Shut.mk hR.blk.lt
  have HR0 := Shut.mk hr
  have HBM := Shut.mk hm
  have HRK := Shut.mk (fun (w' : World) (h : Kb w w' [gx]) => rdB_gx hR HR0.out h)
  have HLE := Shut.mk (fun c (hc : c ∈ R) => usedR_mem hc)
  unfold reach at hml
  have hpv : placeV R s.data.toList = -1 := by simp [placeV, hx]
  have HNO := Shut.mk (idx_none hx)
  have HPV := Shut.mk hpv
  have HRL := Shut.mk (fun (h : R.length < 900000) => h)
  clear hok hs hf hr hm hR hp hx hpv
  go_enter Try.func39, Try.ntmps39
  go_wp2_with fail
  refine HN.out.mono ?_
  rintro e w1 ⟨rfl, rfl⟩
  go_wp2_with fail
  refine HB.out.mono ?_
  rintro e w2 ⟨rfl, hR2, hk2⟩
  have q2 : w2.cell? ⟨gx, 2, none⟩ = some (.int .i64 (-1)) := hR2.blk.cell 2
  have f2 := hR2.blk.free 2
  have HR3 := Shut.mk (hR2.num 2 (.int .i64 (-1)) (room' := room) (short' := -1) (fuse' := fu) rfl)
  have HK3 := Shut.mk (hk2.setCell (p := ⟨gx, 2, none⟩) (by simp) (.int .i64 (-1)))
  clear hk2 HB HN hR2
  go_wp2_with fail
  generalize w2.setCell ⟨gx, 2, none⟩ (.int .i64 (-1)) = w3 at HR3 HK3 ⊢
  have HPL := Shut.mk (dplace_calls HR3.out s (by omega))
  rw [HPV.out] at HPL
  clear q2 f2
  refine HPL.out.mono ?_
  rintro e w4 ⟨rfl, hb4⟩
  have HR4 := Shut.mk (HR3.out.below hb4)
  have HK4 := Shut.mk (HK3.out.below_ hb4)
  clear hb4 HPL HR3 HK3
  have s1 : w4.cell? ⟨gx, 1, none⟩ = some (.int .i64 room) := HR4.out.blk.cell 1
  have hgx := World.block_lt_of_cell? _ _ s1
  go_wp2_with fail
  have hw1 : IntKind.i64.wrap (m : Int) = (m : Int) := by rw [IntKind.wrap_i64]; omega
  have d1 : decide ((1048576 : Int) < (m : Int)) = true := decide_eq_true (by omega)
  go_quiet (fail)
  go_wp2_with fail
  go_ret2
  exact ⟨rfl, AfterD.num (HR4.out.below ⟨rfl, rfl, rfl, Nat.le_refl _, fun _ _ => rfl⟩) (HK4.out.below_ ⟨rfl, rfl, rfl, Nat.le_refl _, fun _ _ => rfl⟩)⟩
set_option maxHeartbeats 2000000 in
theorem rappend_nn2 (hR : RdAt w gx v R room (-1) fuse) (hp : (R.map RF.fl).Pairwise fun a b => a.1 ≠ b.1) (hl : R.length < 900000) (hu : usedR R ≤ 1099511627776) (s : ByteArray) (A : Option Addr) (m c : Nat) (b : List UInt8) (hs : s.size ≤ reach) (f0 : -1 ≤ fuse) (f1 : fuse ≤ 9223372036854775807) (hok : nameOk s.data.toList = true) (hf : fuse ≠ 0)
    (hr : RdB w A b) (hm : b.length = m) (hmc : m ≤ c) (hml : m ≤ reach) (hr1 : 0 ≤ room) (hr2 : room ≤ 1099511627776) (hx : ¬ idxD R s.data.toList < R.length) (hA : 0 + m ≤ 1048576) (hB : room < usedR R + m) :
    Calls Try.prog 39 #[.pointer (some ⟨gx, 0, none⟩), .string s, .slice A m c] w fun e w' => e = .returned (.tuple #[.int .i64 0, .int .i64 4]) ∧ AfterD w w' gx v R (R.map RF.fl) room (-1) (chFuse true fuse) := by
  obtain ⟨i0, hi0, hz0, hz1, hz2⟩ := info_parts info_u8
  have HN := Shut.mk (risName_calls s w hs)
  rw [hok] at HN
  have HB := Shut.mk (burn_calls hR f0 f1)
  rw [decide_eq_true hf] at HB
  generalize chFuse true fuse = fu at HB ⊢
  have HP := Shut.mk hp
  have HX := Shut.mk hx
  have HROW := Shut.mk hR.row_ne
  have HOWN := Shut.mk (fun (c : RF) (hc : c ∈ R) => hR.own_ne hc)
  have HLT := Shut.mk hR.blk.lt
  have HR0 := Shut.mk hr
  have HBM := Shut.mk hm
  have HRK := Shut.mk (fun (w' : World) (h : Kb w w' [gx]) => rdB_gx hR HR0.out h)
  have HLE := Shut.mk (fun c (hc : c ∈ R) => usedR_mem hc)
  unfold reach at hml
  have hpv : placeV R s.data.toList = -1 := by simp [placeV, hx]
  have HNO := Shut.mk (idx_none hx)
  have HPV := Shut.mk hpv
  have HRL := Shut.mk (fun (h : R.length < 900000) => h)
  clear hok hs hf hr hm hR hp hx hpv
  go_enter Try.func39, Try.ntmps39
  go_wp2_with fail
  refine HN.out.mono ?_
  rintro e w1 ⟨rfl, rfl⟩
  go_wp2_with fail
  refine HB.out.mono ?_
  rintro e w2 ⟨rfl, hR2, hk2⟩
  have q2 : w2.cell? ⟨gx, 2, none⟩ = some (.int .i64 (-1)) := hR2.blk.cell 2
  have f2 := hR2.blk.free 2
  have HR3 := Shut.mk (hR2.num 2 (.int .i64 (-1)) (room' := room) (short' := -1) (fuse' := fu) rfl)
  have HK3 := Shut.mk (hk2.setCell (p := ⟨gx, 2, none⟩) (by simp) (.int .i64 (-1)))
  clear hk2 HB HN hR2
  go_wp2_with fail
  generalize w2.setCell ⟨gx, 2, none⟩ (.int .i64 (-1)) = w3 at HR3 HK3 ⊢
  have HPL := Shut.mk (dplace_calls HR3.out s (by omega))
  rw [HPV.out] at HPL
  clear q2 f2
  refine HPL.out.mono ?_
  rintro e w4 ⟨rfl, hb4⟩
  have HR4 := Shut.mk (HR3.out.below hb4)
  have HK4 := Shut.mk (HK3.out.below_ hb4)
  clear hb4 HPL HR3 HK3
  have s1 : w4.cell? ⟨gx, 1, none⟩ = some (.int .i64 room) := HR4.out.blk.cell 1
  have hgx := World.block_lt_of_cell? _ _ s1
  go_wp2_with fail
  have hw1 : IntKind.i64.wrap (m : Int) = (m : Int) := by rw [IntKind.wrap_i64]; omega
  have d1 : decide ((1048576 : Int) < (m : Int)) = false := decide_eq_false (by omega)
  have HU0 := Shut.mk (rused_calls (w := w4.drew) (HR4.out.below ⟨rfl, rfl, rfl, Nat.le_refl _, fun _ _ => rfl⟩) (by omega) hu)
  have hw2 : IntKind.i64.wrap ((usedR R : Int) + (m : Int)) = (usedR R : Int) + (m : Int) := by rw [IntKind.wrap_i64]; omega
  have d2 : decide (room < (usedR R : Int) + (m : Int)) = true := decide_eq_true (by omega)
  go_region_held3 (fun w' => w'.cell? ⟨gx, 1, none⟩ = some (.int .i64 room))
    (first | exact s1 | exact t1 | go_keep)
    (first | (go_at_call 50; refine HU0.out.mono ?_; rintro e w5 ⟨rfl, hb5⟩; have t1 := (hb5.cell hgx).trans s1))
  have hb5' := below_of_drew hb5
  have HR5 := Shut.mk (HR4.out.below hb5')
  have HK5 := Shut.mk (HK4.out.below_ hb5')
  clear hb5 HU0
  go_wp2_with fail
  go_ret2
  exact ⟨rfl, AfterD.num HR5.out HK5.out⟩
set_option maxHeartbeats 2000000 in
theorem rappend_nn3 (hR : RdAt w gx v R room (-1) fuse) (hp : (R.map RF.fl).Pairwise fun a b => a.1 ≠ b.1) (hl : R.length < 900000) (hu : usedR R ≤ 1099511627776) (s : ByteArray) (A : Option Addr) (m c : Nat) (b : List UInt8) (hs : s.size ≤ reach) (f0 : -1 ≤ fuse) (f1 : fuse ≤ 9223372036854775807) (hok : nameOk s.data.toList = true) (hf : fuse ≠ 0)
    (hr : RdB w A b) (hm : b.length = m) (hmc : m ≤ c) (hml : m ≤ reach) (hr1 : 0 ≤ room) (hr2 : room ≤ 1099511627776) (hx : ¬ idxD R s.data.toList < R.length) (hA : 0 + m ≤ 1048576) (hB : usedR R + m ≤ room) :
    Calls Try.prog 39 #[.pointer (some ⟨gx, 0, none⟩), .string s, .slice A m c] w fun e w' => e = .returned (.tuple #[.int .i64 (m : Int), .int .i64 0]) ∧ AfterD w w' gx v R (insF (s.data.toList, b, 0) (R.map RF.fl)) room (-1) (chFuse true fuse) := by
  obtain ⟨i0, hi0, hz0, hz1, hz2⟩ := info_parts info_u8
  have HN := Shut.mk (risName_calls s w hs)
  rw [hok] at HN
  have HB := Shut.mk (burn_calls hR f0 f1)
  rw [decide_eq_true hf] at HB
  generalize chFuse true fuse = fu at HB ⊢
  have HP := Shut.mk hp
  have HX := Shut.mk hx
  have HROW := Shut.mk hR.row_ne
  have HOWN := Shut.mk (fun (c : RF) (hc : c ∈ R) => hR.own_ne hc)
  have HLT := Shut.mk hR.blk.lt
  have HR0 := Shut.mk hr
  have HBM := Shut.mk hm
  have HRK := Shut.mk (fun (w' : World) (h : Kb w w' [gx]) => rdB_gx hR HR0.out h)
  have HLE := Shut.mk (fun c (hc : c ∈ R) => usedR_mem hc)
  unfold reach at hml
  have hpv : placeV R s.data.toList = -1 := by simp [placeV, hx]
  have HNO := Shut.mk (idx_none hx)
  have HPV := Shut.mk hpv
  have HRL := Shut.mk (fun (h : R.length < 900000) => h)
  clear hok hs hf hr hm hR hp hx hpv
  go_enter Try.func39, Try.ntmps39
  go_wp2_with fail
  refine HN.out.mono ?_
  rintro e w1 ⟨rfl, rfl⟩
  go_wp2_with fail
  refine HB.out.mono ?_
  rintro e w2 ⟨rfl, hR2, hk2⟩
  have q2 : w2.cell? ⟨gx, 2, none⟩ = some (.int .i64 (-1)) := hR2.blk.cell 2
  have f2 := hR2.blk.free 2
  have HR3 := Shut.mk (hR2.num 2 (.int .i64 (-1)) (room' := room) (short' := -1) (fuse' := fu) rfl)
  have HK3 := Shut.mk (hk2.setCell (p := ⟨gx, 2, none⟩) (by simp) (.int .i64 (-1)))
  clear hk2 HB HN hR2
  go_wp2_with fail
  generalize w2.setCell ⟨gx, 2, none⟩ (.int .i64 (-1)) = w3 at HR3 HK3 ⊢
  have HPL := Shut.mk (dplace_calls HR3.out s (by omega))
  rw [HPV.out] at HPL
  clear q2 f2
  refine HPL.out.mono ?_
  rintro e w4 ⟨rfl, hb4⟩
  have HR4 := Shut.mk (HR3.out.below hb4)
  have HK4 := Shut.mk (HK3.out.below_ hb4)
  clear hb4 HPL HR3 HK3
  have s1 : w4.cell? ⟨gx, 1, none⟩ = some (.int .i64 room) := HR4.out.blk.cell 1
  have hgx := World.block_lt_of_cell? _ _ s1
  go_wp2_with fail
  have hw1 : IntKind.i64.wrap (m : Int) = (m : Int) := by rw [IntKind.wrap_i64]; omega
  have d1 : decide ((1048576 : Int) < (m : Int)) = false := decide_eq_false (by omega)
  have HU0 := Shut.mk (rused_calls (w := w4.drew) (HR4.out.below ⟨rfl, rfl, rfl, Nat.le_refl _, fun _ _ => rfl⟩) (by omega) hu)
  have hw2 : IntKind.i64.wrap ((usedR R : Int) + (m : Int)) = (usedR R : Int) + (m : Int) := by rw [IntKind.wrap_i64]; omega
  have d2 : decide (room < (usedR R : Int) + (m : Int)) = false := decide_eq_false (by omega)
  go_region_held3 (fun w' => w'.cell? ⟨gx, 1, none⟩ = some (.int .i64 room))
    (first | exact s1 | exact t1 | go_keep)
    (first | (go_at_call 50; refine HU0.out.mono ?_; rintro e w5 ⟨rfl, hb5⟩; have t1 := (hb5.cell hgx).trans s1))
  have hb5' := below_of_drew hb5
  have HR5 := Shut.mk (HR4.out.below hb5')
  have HK5 := Shut.mk (HK4.out.below_ hb5')
  clear hb5 HU0
  clear hb5' HR4 HK4
  have hs5 := HK5.out.size
  have HAD := Shut.mk (radd_calls HR5.out ⟨s, none, 0, [], 0⟩ (Own.nil _ _ _) (by omega))
  have HIA := Shut.mk (insD_at ⟨s, none, 0, [], 0⟩ R HNO.out)
  have HIS := Shut.mk (fun (y : RF) (hk : y.k.data.toList = s.data.toList) => insD_set ⟨s, none, 0, [], 0⟩ y hk R HNO.out)
  have HIL := Shut.mk (show (insD ⟨s, none, 0, [], 0⟩ R).length = R.length + 1 by rw [(insD_perm _ R).length_eq]; rfl)
  have HIM := Shut.mk (fun c => (insD_perm ⟨s, none, 0, [], 0⟩ R).mem_iff (a := c))
  generalize insD ⟨s, none, 0, [], 0⟩ R = R6 at HAD HIA HIS HIL HIM
  go_wp2_with fail
  refine HAD.out.mono ?_
  rintro e w6 ⟨rfl, v6, hR6, hk6, hv6⟩
  have HK6 := Shut.mk (HK5.out.trans hk6 (fun x hx => .inl hx))
  have HPL := Shut.mk (dplace_calls hR6 s (by rw [HIL.out]; omega))
  obtain ⟨k, hk⟩ : ∃ k, k = idxD R6 s.data.toList := ⟨_, rfl⟩
  have hiA : R6[idxD R6 s.data.toList]? = some ⟨s, none, 0, [], 0⟩ := HIA.out
  rw [← hk] at hiA
  have hi6 : k < R6.length := (List.getElem?_eq_some_iff.1 hiA).1
  have hpv : placeV R6 s.data.toList = (k : Int) := by unfold placeV; rw [← hk, if_pos hi6]
  rw [hpv] at HPL
  have HIS2 := Shut.mk (fun y h => by have h9 := HIS.out y h; rw [← hk] at h9; exact h9 : ∀ (y : RF), y.k.data.toList = s.data.toList → (R6.set k y).map RF.fl = insF y.fl (R.map RF.fl))
  have HXA := Shut.mk hiA
  clear hiA hk hpv HIA HIS hk6 HAD HK5
  have HR6 := Shut.mk hR6
  have HNV := Shut.mk hv6
  clear hR6 hv6
  go_wp2_with fail
  refine HPL.out.mono ?_
  rintro e w7 ⟨rfl, hb7⟩
  have HR7 := Shut.mk (HR6.out.below hb7)
  have HK7 := Shut.mk (HK6.out.below_ hb7)
  clear hb7 HPL HR6 HK6
  obtain ⟨g, cap, hv, hnc, hcm, hcell⟩ := HR7.out.head (by omega)
  obtain ⟨N, hN⟩ : ∃ N, N = R6.length := ⟨_, rfl⟩
  rw [← hN] at hi6 hv hnc HIL
  have HN := Shut.mk hN
  unfold maxLen at hcm
  have hNl : N < 1000000 := by rw [HIL.out]; omega
  have c1 : w7.cell? ⟨g, k * 3 + 1, none⟩ = some (.slice none 0 0) := hcell (k * 3 + 1) _ (rfs_get HXA.out 1 (by omega))
  have c0 : w7.cell? ⟨gx, 0, none⟩ = some (.slice (some ⟨g, 0, none⟩) N cap) := by rw [← hv]; exact HR7.out.blk.cell 0
  have HV := Shut.mk hv
  have hkI : (k : Int) < (N : Int) := by omega
  have hk0' : ¬ (k : Int) < 0 := by omega
  clear hv hN hcell s1 t1
  have hgl := World.block_lt_of_cell? _ _ c1
  have hgx7 := World.block_lt_of_cell? _ _ c0
  have HRB := Shut.mk (HRK.out _ HK7.out)
  have hba : Below w7.heap.size w7 (w7.alloc (.cells #[] 5)).drew := by have := (Below.refl _ w7).alloc (Nat.le_refl _) (.cells #[] 5); exact ⟨this.os, this.tape, this.output, this.size, this.block⟩
  have d0 : (w7.alloc (.cells #[] 5)).cell? ⟨gx, 0, none⟩ = some (.slice (some ⟨g, 0, none⟩) N cap) := (World.cell?_alloc_lt w7 _ _ (World.block_lt_of_cell? w7 _ c0)).trans c0
  have d2 : (w7.alloc (.cells #[] 5)).cell? ⟨g, k * 3 + 1, none⟩ = some (.slice none 0 0) := (World.cell?_alloc_lt w7 _ _ (World.block_lt_of_cell? w7 _ c1)).trans c1
  have HOE := Shut.mk (show Own (w7.alloc (.cells #[] 5)).drew 5 1 (.slice (some ⟨w7.heap.size, 0, none⟩) 0 0) 0 [] from own_empty w7 _ _)
  have HRC := Shut.mk (show Rd (w7.alloc (.cells #[] 5)).drew none (bys ([] : List UInt8)) from Rd.nil _ _)
  have HCL := Shut.mk (show (bys ([] : List UInt8)).length = 0 * 1 from rfl)
  have HBL := Shut.mk (show (bys b).length = m * 1 by rw [bys_length, HBM.out, Nat.mul_one])
  have HBA := Shut.mk hba
  have HC1 := Shut.mk c1
  have HC0 := Shut.mk c0
  clear hba
  go_wp2_with fail
  go_region_law (first
    | (refine step_append _ (by rfl) _ _ _ (by rfl) 5 i0 _ 1 1 Try.underlying28 hi0 hz0 hz1 hz2 rfl (by decide) _ _ _ (by rfl) HOE.out _ 0 (0) _ (by rfl) HCL.out HRC.out (bys_one _) (by simp only [maxLen]; omega) (by omega) ?_
       intro v8 w8 hap
       obtain ⟨A8, c8, hv8, _⟩ := hap.own.form
       rw [Nat.zero_add] at hv8
       subst hv8
       have HO8 := Shut.mk (hap.own.cast (Nat.zero_add 0) (List.nil_append _))
       have hb8 : Below w7.heap.size w7 w8 := HBA.out.grown hap.grown (by have := HBA.out.size; exact this) (fun r hr => by cases hr; exact Nat.le_refl _)
       have hl8 : ∀ g', (Value.slice A8 0 c8).ownBlock = some g' → w7.heap.size ≤ g' := fun g' hg' => by
         rcases hap.lies with h | h
         · rw [h] at hg'; cases hg'; exact Nat.le_refl _
         · rw [h] at hg'; injection hg' with hg'; rw [← hg']; exact HBA.out.size
       have e0 : w8.cell? ⟨gx, 0, none⟩ = some (.slice (some ⟨g, 0, none⟩) N cap) := (hb8.cell hgx7).trans HC0.out
       have e2 := (hb8.cell hgl).trans HC1.out
       have hR8 := rd_of_rdB (HRB.out.keep hb8)
       have HR8 := Shut.mk hR8
       have HB8 := Shut.mk hb8
       have HL8 := Shut.mk hl8
       clear hap hb8 hl8 hR8)
    | (refine step_append _ (by rfl) _ _ _ (by rfl) 5 i0 _ 1 1 Try.underlying28 hi0 hz0 hz1 hz2 rfl (by decide) _ _ _ (by rfl) HO8.out _ m c _ (by rfl) HBL.out HR8.out (bys_one _) (by simp only [maxLen]; omega) (by omega) ?_
       intro v9 w9 hap
       obtain ⟨A9, c9, hv9, _⟩ := hap.own.form
       rw [Nat.zero_add] at hv9
       subst hv9
       have HO9 := Shut.mk (hap.own.cast (n' := m) (by rw [Nat.zero_add]) rfl)
       have hb9 : Below w7.heap.size w7 w9 := HB8.out.grown hap.grown HB8.out.size (fun r hr => HL8.out r hr)
       have hl9 : ∀ g', (Value.slice A9 (m) c9).ownBlock = some g' → w7.heap.size ≤ g' := fun g' hg' => by
         rcases hap.lies with h | h
         · rw [h] at hg'; exact HL8.out g' hg'
         · rw [h] at hg'; injection hg' with hg'; rw [← hg']; exact HB8.out.size
       have hRn := HR7.out.below hb9
       have e0 : w9.cell? ⟨gx, 0, none⟩ = some (.slice (some ⟨g, 0, none⟩) N cap) := by rw [← HV.out]; exact hRn.blk.cell 0
       have ef : w9.frozen? ⟨g, k * 3 + 1, none⟩ = false := by
         have := hRn.own
         rw [HV.out] at this
         rw [← HN.out] at this
         exact this.freeAt _
       have e2 := (hb9.cell hgl).trans HC1.out
       have HRN := Shut.mk hRn
       have HB9 := Shut.mk hb9
       have HL9 := Shut.mk hl9
       clear hap hb9 hl9 hRn))
  all_goals (
    have e9 : (Value.slice A9 (m) c9) = .slice A9 (([] : List UInt8) ++ b).length c9 := by rw [List.length_append, HBM.out]; try first | rfl | (simp; done)
    have hT := HRN.out.turnb HXA.out HV.out (A := A9) (cp := c9) (b := ([] : List UInt8) ++ b) (by rw [← e9]; exact HO9.out.cast (by rw [List.length_append, HBM.out]; try first | rfl | (simp; done)) (bys_append _ _).symm)
    have hK : Kb w (w9.setCell ⟨g, k * 3 + 1, none⟩ (.slice A9 (([] : List UInt8) ++ b).length c9)) (footD gx v R ++ [g]) := ((HK7.out.mono (L' := footD gx v R ++ [g]) (by simp [footD])).below_ HB9.out).setCell (by simp) _
    rw [e9]
    generalize w9.setCell ⟨g, k * 3 + 1, none⟩ (.slice A9 (([] : List UInt8) ++ b).length c9) = w10 at hT hK ⊢
    have HL10 := Shut.mk (e9 ▸ HL9.out)
    have HT := Shut.mk hT
    have HK := Shut.mk hK
    clear hT hK
    go_wp2_with fail
    go_ret2
    have hkv : g = g := rfl
    refine ⟨rfl, AfterD.set HT.out (HIS2.out ⟨s, A9, c9, [] ++ b, 0⟩ rfl) (HK.out.fresh fun x hx => ?_) (fun g' hg' => .inr (Nat.le_trans hs5 (HNV.out g' hg'))) (fun c hc g' hg' => ?_)⟩
    · rcases List.mem_append.1 hx with hx | hx
      · exact .inl hx
      · rw [List.mem_singleton.1 hx]
        exact .inr (Nat.le_trans hs5 (HNV.out g (by rw [HV.out]; rfl)))
    · rcases List.mem_or_eq_of_mem_set hc with hc | rfl
      · rcases List.mem_cons.1 (HIM.out c |>.1 hc) with rfl | hc
        · cases hg'
        · exact .inl (footD_own hc hg')
      · exact .inr (Nat.le_trans HK7.out.size (HL10.out g' hg')))
end
end Go.Proofs.Ytjmaimpfplojpaa
