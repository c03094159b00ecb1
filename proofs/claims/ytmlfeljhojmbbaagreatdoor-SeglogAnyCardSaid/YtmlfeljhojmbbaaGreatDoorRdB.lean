/- Walk: the document's disk: Append. The calls on the document's disk in the words of its files alone. -/
import Derived.Test.YtmlfeljhojmbbaaGreatDoorRdA
import Derived.BigQuiet
import Derived.Deep.RegionHeld3
import Derived.Test.YtmlfeljhojmbbaaGreatDoorRdK
import Derived.Test.YtmlfeljhojmbbaaGreatDoorRdN
import Derived.Test.YtmlfeljhojmbbaaGreatDoorDs
import Derived.Test.YtmlfeljhojmbbaaGreatDoorList
namespace Go.Proofs.YtmlfeljhojmbbaaGreatDoor
open Go.RowKit Go.Maps
set_option linter.unusedSimpArgs false
set_option linter.unusedVariables false
set_option maxRecDepth 100000

section
variable {w : World} {gx : Nat} {v : Value} {R : List RF} {room short fuse : Int}
set_option maxHeartbeats 2000000 in
theorem rappend_co1 (sh : Nat) (hR : RdAt w gx v R room (sh : Int) fuse) (hp : (R.map RF.fl).Pairwise fun a b => a.1 ≠ b.1) (hl : R.length < 900000) (hu : usedR R ≤ 1099511627776) (s : ByteArray) (A : Option Addr) (m c : Nat) (b : List UInt8) (hs : s.size ≤ reach) (f0 : -1 ≤ fuse) (f1 : fuse ≤ 9223372036854775807) (hok : nameOk s.data.toList = true) (hf : fuse ≠ 0)
    (hr : RdB w A b) (hm : b.length = m) (hmc : m ≤ c) (hml : m ≤ reach) (hr1 : 0 ≤ room) (hr2 : room ≤ 1099511627776) (hsh : sh < m) {x : RF} (hx : R[idxD R s.data.toList]? = some x) (hA : 1048576 < x.b.length + sh) :
    Calls Tryz.prog 22 #[.pointer (some ⟨gx, 0, none⟩), .string s, .slice A m c] w fun e w' => e = .returned (.tuple #[.int .i64 0, .int .i64 4]) ∧ AfterD w w' gx v R (R.map RF.fl) room (-1) (chFuse true fuse) := by
  obtain ⟨i0, hi0, hz0, hz1, hz2⟩ := info_parts info_u8
  have HN := Shut.mk (risName_calls s w hs)
  rw [hok] at HN
  have HB := Shut.mk (burn_calls hR f0 f1)
  rw [decide_eq_true hf] at HB
  generalize chFuse true fuse = fu at HB ⊢
  have HP := Shut.mk hp
  have HX := Shut.mk hx
  have HROW := Shut.mk hR.row_ne
  have HOWN := Shut.mk (fun (c : RF) (hc : c ∈ R) => hR.own_ne hc)
  have HLT := Shut.mk hR.blk.lt
  have HR0 := Shut.mk (hr.take sh)
  have HBM := Shut.mk (show (b.take sh).length = sh by rw [List.length_take]; omega)
  generalize b.take sh = bb at HR0 HBM ⊢
  have HRK := Shut.mk (fun (w' : World) (h : Kb w w' [gx]) => rdB_gx hR HR0.out h)
  have HLE := Shut.mk (fun c (hc : c ∈ R) => usedR_mem hc)
  unfold reach at hml
  have hi : idxD R s.data.toList < R.length := (List.getElem?_eq_some_iff.1 hx).1
  have hpv : placeV R s.data.toList = (idxD R s.data.toList : Int) := by simp [placeV, hi]
  have hxm := List.mem_of_getElem? hx
  have HXM := Shut.mk hxm
  have hxu := usedR_mem hxm
  have HKX := Shut.mk (show x.k.data.toList = s.data.toList by obtain ⟨c', h1, h2⟩ := rf_at hi; rw [hx] at h1; injection h1 with h1; rw [h1]; exact h2)
  obtain ⟨NX, hNX⟩ : ∃ NX, NX = x.b.length := ⟨_, rfl⟩
  rw [← hNX] at hA hxu
  have HNX := Shut.mk hNX
  obtain ⟨k, hk⟩ : ∃ k, k = idxD R s.data.toList := ⟨_, rfl⟩
  rw [← hk] at hpv hi HX
  clear hxm hNX hk
  have HPV := Shut.mk hpv
  have HRL := Shut.mk (fun (h : R.length < 900000) => h)
  clear hok hs hf hr hm hR hp hx hpv
  go_enter Tryz.func22, Tryz.ntmps22
  go_wp2_with fail
  refine HN.out.mono ?_
  rintro e w1 ⟨rfl, rfl⟩
  go_wp2_with fail
  refine HB.out.mono ?_
  rintro e w2 ⟨rfl, hR2, hk2⟩
  have q2 : w2.cell? ⟨gx, 2, none⟩ = some (.int .i64 (sh : Int)) := hR2.blk.cell 2
  have f2 := hR2.blk.free 2
  have HR3 := Shut.mk (hR2.num 2 (.int .i64 (-1)) (room' := room) (short' := -1) (fuse' := fu) rfl)
  have HK3 := Shut.mk (hk2.setCell (p := ⟨gx, 2, none⟩) (by simp) (.int .i64 (-1)))
  clear hk2 HB HN hR2
  have hs1 : (sh : Int) ≥ 0 := by omega
  have hs2 : ((m : Int) > (sh : Int)) := by omega
  have hs3 : sh ≤ c := by omega
  go_wp2_with fail
  generalize w2.setCell ⟨gx, 2, none⟩ (.int .i64 (-1)) = w3 at HR3 HK3 ⊢
  have HPL := Shut.mk (dplace_calls HR3.out s (by omega))
  rw [HPV.out] at HPL
  clear q2 f2
  refine HPL.out.mono ?_
  rintro e w4 ⟨rfl, hb4⟩
  have HR4 := Shut.mk (HR3.out.below hb4)
  have HK4 := Shut.mk (HK3.out.below_ hb4)
  clear hb4 HPL HR3 HK3
  have s1 : w4.cell? ⟨gx, 1, none⟩ = some (.int .i64 room) := HR4.out.blk.cell 1
  have hgx := World.block_lt_of_cell? _ _ s1
  obtain ⟨g, cap, hv, hnc, hcm, hcell⟩ := HR4.out.head (by omega)
  obtain ⟨N, hN⟩ : ∃ N, N = R.length := ⟨_, rfl⟩
  rw [← hN] at hi hl hv hnc
  have HN := Shut.mk hN
  unfold maxLen at hcm
  have c1 : w4.cell? ⟨g, k * 3 + 1, none⟩ = some (.slice x.A NX x.cp) := by rw [HNX.out]; exact hcell (k * 3 + 1) _ (rfs_get HX.out 1 (by omega))
  have c0 : w4.cell? ⟨gx, 0, none⟩ = some (.slice (some ⟨g, 0, none⟩) N cap) := by rw [← hv]; exact HR4.out.blk.cell 0
  have HV := Shut.mk hv
  have hkI : (k : Int) < (N : Int) := by omega
  have hk0 : (k : Int) ≥ 0 := by omega
  have hk0' : ¬ (k : Int) < 0 := by omega
  clear hv hN hcell
  go_wp2_with fail
  have hw1 : IntKind.i64.wrap ((NX : Int) + (sh : Int)) = (NX : Int) + (sh : Int) := by rw [IntKind.wrap_i64]; omega
  have d1 : decide ((1048576 : Int) < (NX : Int) + (sh : Int)) = true := decide_eq_true (by omega)
  go_quiet (fail)
  go_wp2_with fail
  go_ret2
  exact ⟨rfl, AfterD.num (HR4.out.below ⟨rfl, rfl, rfl, Nat.le_refl _, fun _ _ => rfl⟩) (HK4.out.below_ ⟨rfl, rfl, rfl, Nat.le_refl _, fun _ _ => rfl⟩)⟩
set_option maxHeartbeats 2000000 in
theorem rappend_co2 (sh : Nat) (hR : RdAt w gx v R room (sh : Int) fuse) (hp : (R.map RF.fl).Pairwise fun a b => a.1 ≠ b.1) (hl : R.length < 900000) (hu : usedR R ≤ 1099511627776) (s : ByteArray) (A : Option Addr) (m c : Nat) (b : List UInt8) (hs : s.size ≤ reach) (f0 : -1 ≤ fuse) (f1 : fuse ≤ 9223372036854775807) (hok : nameOk s.data.toList = true) (hf : fuse ≠ 0)
    (hr : RdB w A b) (hm : b.length = m) (hmc : m ≤ c) (hml : m ≤ reach) (hr1 : 0 ≤ room) (hr2 : room ≤ 1099511627776) (hsh : sh < m) {x : RF} (hx : R[idxD R s.data.toList]? = some x) (hA : x.b.length + sh ≤ 1048576) (hB : room < usedR R + sh) :
    Calls Tryz.prog 22 #[.pointer (some ⟨gx, 0, none⟩), .string s, .slice A m c] w fun e w' => e = .returned (.tuple #[.int .i64 0, .int .i64 4]) ∧ AfterD w w' gx v R (R.map RF.fl) room (-1) (chFuse true fuse) := by
  obtain ⟨i0, hi0, hz0, hz1, hz2⟩ := info_parts info_u8
  have HN := Shut.mk (risName_calls s w hs)
  rw [hok] at HN
  have HB := Shut.mk (burn_calls hR f0 f1)
  rw [decide_eq_true hf] at HB
  generalize chFuse true fuse = fu at HB ⊢
  have HP := Shut.mk hp
  have HX := Shut.mk hx
  have HROW := Shut.mk hR.row_ne
  have HOWN := Shut.mk (fun (c : RF) (hc : c ∈ R) => hR.own_ne hc)
  have HLT := Shut.mk hR.blk.lt
  have HR0 := Shut.mk (hr.take sh)
  have HBM := Shut.mk (show (b.take sh).length = sh by rw [List.length_take]; omega)
  generalize b.take sh = bb at HR0 HBM ⊢
  have HRK := Shut.mk (fun (w' : World) (h : Kb w w' [gx]) => rdB_gx hR HR0.out h)
  have HLE := Shut.mk (fun c (hc : c ∈ R) => usedR_mem hc)
  unfold reach at hml
  have hi : idxD R s.data.toList < R.length := (List.getElem?_eq_some_iff.1 hx).1
  have hpv : placeV R s.data.toList = (idxD R s.data.toList : Int) := by simp [placeV, hi]
  have hxm := List.mem_of_getElem? hx
  have HXM := Shut.mk hxm
  have hxu := usedR_mem hxm
  have HKX := Shut.mk (show x.k.data.toList = s.data.toList by obtain ⟨c', h1, h2⟩ := rf_at hi; rw [hx] at h1; injection h1 with h1; rw [h1]; exact h2)
  obtain ⟨NX, hNX⟩ : ∃ NX, NX = x.b.length := ⟨_, rfl⟩
  rw [← hNX] at hA hxu
  have HNX := Shut.mk hNX
  obtain ⟨k, hk⟩ : ∃ k, k = idxD R s.data.toList := ⟨_, rfl⟩
  rw [← hk] at hpv hi HX
  clear hxm hNX hk
  have HPV := Shut.mk hpv
  have HRL := Shut.mk (fun (h : R.length < 900000) => h)
  clear hok hs hf hr hm hR hp hx hpv
  go_enter Tryz.func22, Tryz.ntmps22
  go_wp2_with fail
  refine HN.out.mono ?_
  rintro e w1 ⟨rfl, rfl⟩
  go_wp2_with fail
  refine HB.out.mono ?_
  rintro e w2 ⟨rfl, hR2, hk2⟩
  have q2 : w2.cell? ⟨gx, 2, none⟩ = some (.int .i64 (sh : Int)) := hR2.blk.cell 2
  have f2 := hR2.blk.free 2
  have HR3 := Shut.mk (hR2.num 2 (.int .i64 (-1)) (room' := room) (short' := -1) (fuse' := fu) rfl)
  have HK3 := Shut.mk (hk2.setCell (p := ⟨gx, 2, none⟩) (by simp) (.int .i64 (-1)))
  clear hk2 HB HN hR2
  have hs1 : (sh : Int) ≥ 0 := by omega
  have hs2 : ((m : Int) > (sh : Int)) := by omega
  have hs3 : sh ≤ c := by omega
  go_wp2_with fail
  generalize w2.setCell ⟨gx, 2, none⟩ (.int .i64 (-1)) = w3 at HR3 HK3 ⊢
  have HPL := Shut.mk (dplace_calls HR3.out s (by omega))
  rw [HPV.out] at HPL
  clear q2 f2
  refine HPL.out.mono ?_
  rintro e w4 ⟨rfl, hb4⟩
  have HR4 := Shut.mk (HR3.out.below hb4)
  have HK4 := Shut.mk (HK3.out.below_ hb4)
  clear hb4 HPL HR3 HK3
  have s1 : w4.cell? ⟨gx, 1, none⟩ = some (.int .i64 room) := HR4.out.blk.cell 1
  have hgx := World.block_lt_of_cell? _ _ s1
  obtain ⟨g, cap, hv, hnc, hcm, hcell⟩ := HR4.out.head (by omega)
  obtain ⟨N, hN⟩ : ∃ N, N = R.length := ⟨_, rfl⟩
  rw [← hN] at hi hl hv hnc
  have HN := Shut.mk hN
  unfold maxLen at hcm
  have c1 : w4.cell? ⟨g, k * 3 + 1, none⟩ = some (.slice x.A NX x.cp) := by rw [HNX.out]; exact hcell (k * 3 + 1) _ (rfs_get HX.out 1 (by omega))
  have c0 : w4.cell? ⟨gx, 0, none⟩ = some (.slice (some ⟨g, 0, none⟩) N cap) := by rw [← hv]; exact HR4.out.blk.cell 0
  have HV := Shut.mk hv
  have hkI : (k : Int) < (N : Int) := by omega
  have hk0 : (k : Int) ≥ 0 := by omega
  have hk0' : ¬ (k : Int) < 0 := by omega
  clear hv hN hcell
  go_wp2_with fail
  have hw1 : IntKind.i64.wrap ((NX : Int) + (sh : Int)) = (NX : Int) + (sh : Int) := by rw [IntKind.wrap_i64]; omega
  have d1 : decide ((1048576 : Int) < (NX : Int) + (sh : Int)) = false := decide_eq_false (by omega)
  have HU0 := Shut.mk (rused_calls (w := w4.drew) (HR4.out.below ⟨rfl, rfl, rfl, Nat.le_refl _, fun _ _ => rfl⟩) (by rw [← HN.out]; omega) hu)
  have hw2 : IntKind.i64.wrap ((usedR R : Int) + (sh : Int)) = (usedR R : Int) + (sh : Int) := by rw [IntKind.wrap_i64]; omega
  have d2 : decide (room < (usedR R : Int) + (sh : Int)) = true := decide_eq_true (by omega)
  go_region_held3 (fun w' => w'.cell? ⟨gx, 1, none⟩ = some (.int .i64 room))
    (first | exact s1 | exact t1 | go_keep)
    (first | (go_at_call 70; refine HU0.out.mono ?_; rintro e w5 ⟨rfl, hb5⟩; have t1 := (hb5.cell hgx).trans s1))
  have hb5' := below_of_drew hb5
  have HR5 := Shut.mk (HR4.out.below hb5')
  have HK5 := Shut.mk (HK4.out.below_ hb5')
  clear hb5 HU0
  go_wp2_with fail
  go_ret2
  exact ⟨rfl, AfterD.num HR5.out HK5.out⟩
set_option maxHeartbeats 2000000 in
theorem rappend_co3 (sh : Nat) (hR : RdAt w gx v R room (sh : Int) fuse) (hp : (R.map RF.fl).Pairwise fun a b => a.1 ≠ b.1) (hl : R.length < 900000) (hu : usedR R ≤ 1099511627776) (s : ByteArray) (A : Option Addr) (m c : Nat) (b : List UInt8) (hs : s.size ≤ reach) (f0 : -1 ≤ fuse) (f1 : fuse ≤ 9223372036854775807) (hok : nameOk s.data.toList = true) (hf : fuse ≠ 0)
    (hr : RdB w A b) (hm : b.length = m) (hmc : m ≤ c) (hml : m ≤ reach) (hr1 : 0 ≤ room) (hr2 : room ≤ 1099511627776) (hsh : sh < m) {x : RF} (hx : R[idxD R s.data.toList]? = some x) (hA : x.b.length + sh ≤ 1048576) (hB : usedR R + sh ≤ room) :
    Calls Tryz.prog 22 #[.pointer (some ⟨gx, 0, none⟩), .string s, .slice A m c] w fun e w' => e = .returned (.tuple #[.int .i64 (sh : Int), .int .i64 61]) ∧ AfterD w w' gx v R (setF (R.map RF.fl) s.data.toList (x.b ++ (b.take sh)) x.syn) room (-1) (chFuse true fuse) := by
  obtain ⟨i0, hi0, hz0, hz1, hz2⟩ := info_parts info_u8
  have HN := Shut.mk (risName_calls s w hs)
  rw [hok] at HN
  have HB := Shut.mk (burn_calls hR f0 f1)
  rw [decide_eq_true hf] at HB
  generalize chFuse true fuse = fu at HB ⊢
  have HP := Shut.mk hp
  have HX := Shut.mk hx
  have HROW := Shut.mk hR.row_ne
  have HOWN := Shut.mk (fun (c : RF) (hc : c ∈ R) => hR.own_ne hc)
  have HLT := Shut.mk hR.blk.lt
  have HR0 := Shut.mk (hr.take sh)
  have HBM := Shut.mk (show (b.take sh).length = sh by rw [List.length_take]; omega)
  generalize b.take sh = bb at HR0 HBM ⊢
  have HRK := Shut.mk (fun (w' : World) (h : Kb w w' [gx]) => rdB_gx hR HR0.out h)
  have HLE := Shut.mk (fun c (hc : c ∈ R) => usedR_mem hc)
  unfold reach at hml
  have hi : idxD R s.data.toList < R.length := (List.getElem?_eq_some_iff.1 hx).1
  have hpv : placeV R s.data.toList = (idxD R s.data.toList : Int) := by simp [placeV, hi]
  have hxm := List.mem_of_getElem? hx
  have HXM := Shut.mk hxm
  have hxu := usedR_mem hxm
  have HKX := Shut.mk (show x.k.data.toList = s.data.toList by obtain ⟨c', h1, h2⟩ := rf_at hi; rw [hx] at h1; injection h1 with h1; rw [h1]; exact h2)
  obtain ⟨NX, hNX⟩ : ∃ NX, NX = x.b.length := ⟨_, rfl⟩
  rw [← hNX] at hA hxu
  have HNX := Shut.mk hNX
  obtain ⟨k, hk⟩ : ∃ k, k = idxD R s.data.toList := ⟨_, rfl⟩
  rw [← hk] at hpv hi HX
  clear hxm hNX hk
  have HPV := Shut.mk hpv
  have HRL := Shut.mk (fun (h : R.length < 900000) => h)
  clear hok hs hf hr hm hR hp hx hpv
  go_enter Tryz.func22, Tryz.ntmps22
  go_wp2_with fail
  refine HN.out.mono ?_
  rintro e w1 ⟨rfl, rfl⟩
  go_wp2_with fail
  refine HB.out.mono ?_
  rintro e w2 ⟨rfl, hR2, hk2⟩
  have q2 : w2.cell? ⟨gx, 2, none⟩ = some (.int .i64 (sh : Int)) := hR2.blk.cell 2
  have f2 := hR2.blk.free 2
  have HR3 := Shut.mk (hR2.num 2 (.int .i64 (-1)) (room' := room) (short' := -1) (fuse' := fu) rfl)
  have HK3 := Shut.mk (hk2.setCell (p := ⟨gx, 2, none⟩) (by simp) (.int .i64 (-1)))
  clear hk2 HB HN hR2
  have hs1 : (sh : Int) ≥ 0 := by omega
  have hs2 : ((m : Int) > (sh : Int)) := by omega
  have hs3 : sh ≤ c := by omega
  go_wp2_with fail
  generalize w2.setCell ⟨gx, 2, none⟩ (.int .i64 (-1)) = w3 at HR3 HK3 ⊢
  have HPL := Shut.mk (dplace_calls HR3.out s (by omega))
  rw [HPV.out] at HPL
  clear q2 f2
  refine HPL.out.mono ?_
  rintro e w4 ⟨rfl, hb4⟩
  have HR4 := Shut.mk (HR3.out.below hb4)
  have HK4 := Shut.mk (HK3.out.below_ hb4)
  clear hb4 HPL HR3 HK3
  have s1 : w4.cell? ⟨gx, 1, none⟩ = some (.int .i64 room) := HR4.out.blk.cell 1
  have hgx := World.block_lt_of_cell? _ _ s1
  obtain ⟨g, cap, hv, hnc, hcm, hcell⟩ := HR4.out.head (by omega)
  obtain ⟨N, hN⟩ : ∃ N, N = R.length := ⟨_, rfl⟩
  rw [← hN] at hi hl hv hnc
  have HN := Shut.mk hN
  unfold maxLen at hcm
  have c1 : w4.cell? ⟨g, k * 3 + 1, none⟩ = some (.slice x.A NX x.cp) := by rw [HNX.out]; exact hcell (k * 3 + 1) _ (rfs_get HX.out 1 (by omega))
  have c0 : w4.cell? ⟨gx, 0, none⟩ = some (.slice (some ⟨g, 0, none⟩) N cap) := by rw [← hv]; exact HR4.out.blk.cell 0
  have HV := Shut.mk hv
  have hkI : (k : Int) < (N : Int) := by omega
  have hk0 : (k : Int) ≥ 0 := by omega
  have hk0' : ¬ (k : Int) < 0 := by omega
  clear hv hN hcell
  go_wp2_with fail
  have hw1 : IntKind.i64.wrap ((NX : Int) + (sh : Int)) = (NX : Int) + (sh : Int) := by rw [IntKind.wrap_i64]; omega
  have d1 : decide ((1048576 : Int) < (NX : Int) + (sh : Int)) = false := decide_eq_false (by omega)
  have HU0 := Shut.mk (rused_calls (w := w4.drew) (HR4.out.below ⟨rfl, rfl, rfl, Nat.le_refl _, fun _ _ => rfl⟩) (by rw [← HN.out]; omega) hu)
  have hw2 : IntKind.i64.wrap ((usedR R : Int) + (sh : Int)) = (usedR R : Int) + (sh : Int) := by rw [IntKind.wrap_i64]; omega
  have d2 : decide (room < (usedR R : Int) + (sh : Int)) = false := decide_eq_false (by omega)
  go_region_held3 (fun w' => w'.cell? ⟨gx, 1, none⟩ = some (.int .i64 room))
    (first | exact s1 | exact t1 | go_keep)
    (first | (go_at_call 70; refine HU0.out.mono ?_; rintro e w5 ⟨rfl, hb5⟩; have t1 := (hb5.cell hgx).trans s1))
  have hb5' := below_of_drew hb5
  have HR5 := Shut.mk (HR4.out.below hb5')
  have HK5 := Shut.mk (HK4.out.below_ hb5')
  clear hb5 HU0
  have e0 : w5.cell? ⟨gx, 0, none⟩ = some (.slice (some ⟨g, 0, none⟩) N cap) := (hb5'.cell (World.block_lt_of_cell? _ _ c0)).trans c0
  have e1 : w5.cell? ⟨g, k * 3 + 1, none⟩ = some (.slice x.A NX x.cp) := (hb5'.cell (World.block_lt_of_cell? _ _ c1)).trans c1
  clear hb5' c0 c1 s1 t1 HR4 HK4
  have c0 := e0
  have c1 := e1
  clear e0 e1
  have hgl := World.block_lt_of_cell? _ _ c1
  have hgx7 := World.block_lt_of_cell? _ _ c0
  have HRB := Shut.mk (HRK.out _ HK5.out)
  have hba : Below w5.heap.size w5 (w5.alloc (.cells #[] 5)).drew := by have := (Below.refl _ w5).alloc (Nat.le_refl _) (.cells #[] 5); exact ⟨this.os, this.tape, this.output, this.size, this.block⟩
  have d0 : (w5.alloc (.cells #[] 5)).cell? ⟨gx, 0, none⟩ = some (.slice (some ⟨g, 0, none⟩) N cap) := (World.cell?_alloc_lt w5 _ _ (World.block_lt_of_cell? w5 _ c0)).trans c0
  have d2 : (w5.alloc (.cells #[] 5)).cell? ⟨g, k * 3 + 1, none⟩ = some (.slice x.A NX x.cp) := (World.cell?_alloc_lt w5 _ _ (World.block_lt_of_cell? w5 _ c1)).trans c1
  have HOE := Shut.mk (show Own (w5.alloc (.cells #[] 5)).drew 5 1 (.slice (some ⟨w5.heap.size, 0, none⟩) 0 0) 0 [] from own_empty w5 _ _)
  have HOC := Shut.mk (HR5.out.rows x HXM.out)
  have HRC := Shut.mk (show Rd (w5.alloc (.cells #[] 5)).drew x.A (bys x.b) from by
    have h9 := HOC.out.below hba fun g hg => HOC.out.block_lt hg
    obtain ⟨A9, c9, e9, h8, _⟩ := h9.form
    have : x.A = A9 := by unfold RF.v at e9; injection e9
    rw [this]
    exact h8)
  have HCL := Shut.mk (show (bys x.b).length = NX * 1 by rw [bys_length, HNX.out, Nat.mul_one])
  have HBL := Shut.mk (show (bys bb).length = sh * 1 by rw [bys_length, HBM.out, Nat.mul_one])
  have HBA := Shut.mk hba
  have HC1 := Shut.mk c1
  have HC0 := Shut.mk c0
  clear hba
  go_wp2_with fail
  go_region_law (first
    | (refine step_append _ (by rfl) _ _ _ (by rfl) 5 i0 _ 1 1 Tryz.underlying27 hi0 hz0 hz1 hz2 rfl (by decide) _ _ _ (by rfl) HOE.out _ NX (x.cp) _ (by rfl) HCL.out HRC.out (bys_one _) (by simp only [maxLen]; omega) (by omega) ?_
       intro v8 w8 hap
       obtain ⟨A8, c8, hv8, _⟩ := hap.own.form
       rw [Nat.zero_add] at hv8
       subst hv8
       have HO8 := Shut.mk (hap.own.cast (Nat.zero_add NX) (List.nil_append _))
       have hb8 : Below w5.heap.size w5 w8 := HBA.out.grown hap.grown (by have := HBA.out.size; exact this) (fun r hr => by cases hr; exact Nat.le_refl _)
       have hl8 : ∀ g', (Value.slice A8 NX c8).ownBlock = some g' → w5.heap.size ≤ g' := fun g' hg' => by
         rcases hap.lies with h | h
         · rw [h] at hg'; cases hg'; exact Nat.le_refl _
         · rw [h] at hg'; injection hg' with hg'; rw [← hg']; exact HBA.out.size
       have e0 : w8.cell? ⟨gx, 0, none⟩ = some (.slice (some ⟨g, 0, none⟩) N cap) := (hb8.cell hgx7).trans HC0.out
       have e2 := (hb8.cell hgl).trans HC1.out
       have hR8 := rd_of_rdB (HRB.out.keep hb8)
       have HR8 := Shut.mk hR8
       have HB8 := Shut.mk hb8
       have HL8 := Shut.mk hl8
       clear hap hb8 hl8 hR8)
    | (refine step_append _ (by rfl) _ _ _ (by rfl) 5 i0 _ 1 1 Tryz.underlying27 hi0 hz0 hz1 hz2 rfl (by decide) _ _ _ (by rfl) HO8.out _ sh c _ (by rfl) HBL.out HR8.out (bys_one _) (by simp only [maxLen]; omega) (by omega) ?_
       intro v9 w9 hap
       obtain ⟨A9, c9, hv9, _⟩ := hap.own.form
       skip
       subst hv9
       have HO9 := Shut.mk (hap.own.cast (n' := NX + sh) (by rfl) rfl)
       have hb9 : Below w5.heap.size w5 w9 := HB8.out.grown hap.grown HB8.out.size (fun r hr => HL8.out r hr)
       have hl9 : ∀ g', (Value.slice A9 (NX + sh) c9).ownBlock = some g' → w5.heap.size ≤ g' := fun g' hg' => by
         rcases hap.lies with h | h
         · rw [h] at hg'; exact HL8.out g' hg'
         · rw [h] at hg'; injection hg' with hg'; rw [← hg']; exact HB8.out.size
       have hRn := HR5.out.below hb9
       have e0 : w9.cell? ⟨gx, 0, none⟩ = some (.slice (some ⟨g, 0, none⟩) N cap) := by rw [← HV.out]; exact hRn.blk.cell 0
       have ef : w9.frozen? ⟨g, k * 3 + 1, none⟩ = false := by
         have := hRn.own
         rw [HV.out] at this
         rw [← HN.out] at this
         exact this.freeAt _
       have e2 := (hb9.cell hgl).trans HC1.out
       have HRN := Shut.mk hRn
       have HB9 := Shut.mk hb9
       have HL9 := Shut.mk hl9
       clear hap hb9 hl9 hRn))
  all_goals (
    have e9 : (Value.slice A9 (NX + sh) c9) = .slice A9 (x.b ++ bb).length c9 := by rw [List.length_append, HBM.out, HNX.out]; try first | rfl | (simp; done)
    have hT := HRN.out.turnb HX.out HV.out (A := A9) (cp := c9) (b := x.b ++ bb) (by rw [← e9]; exact HO9.out.cast (by rw [List.length_append, HBM.out, HNX.out]; try first | rfl | (simp; done)) (bys_append _ _).symm)
    have hK : Kb w (w9.setCell ⟨g, k * 3 + 1, none⟩ (.slice A9 (x.b ++ bb).length c9)) (footD gx v R) := ((HK5.out.mono (L' := footD gx v R) (by simp [footD])).below_ HB9.out).setCell (by simp [footD, HV.out, Value.ownBlock]) _
    rw [e9]
    generalize w9.setCell ⟨g, k * 3 + 1, none⟩ (.slice A9 (x.b ++ bb).length c9) = w10 at hT hK ⊢
    have HL10 := Shut.mk (e9 ▸ HL9.out)
    have HT := Shut.mk hT
    have HK := Shut.mk hK
    clear hT hK
    go_wp2_with fail
    go_ret2
    refine ⟨rfl, AfterD.set HT.out (by
      have h9 := set_fl HP.out HX.out (y := ⟨x.k, A9, c9, x.b ++ bb, x.syn⟩) rfl
      rw [HKX.out] at h9
      exact h9) HK.out (fun g hg => .inl hg) (fun c hc g' hg' => ?_)⟩
    rcases List.mem_or_eq_of_mem_set hc with hc | rfl
    · exact .inl (footD_own hc hg')
    · exact .inr (Nat.le_trans HK5.out.size (HL10.out g' hg')))
set_option maxHeartbeats 2000000 in
theorem rappend_cn1 (sh : Nat) (hR : RdAt w gx v R room (sh : Int) fuse) (hp : (R.map RF.fl).Pairwise fun a b => a.1 ≠ b.1) (hl : R.length < 900000) (hu : usedR R ≤ 1099511627776) (s : ByteArray) (A : Option Addr) (m c : Nat) (b : List UInt8) (hs : s.size ≤ reach) (f0 : -1 ≤ fuse) (f1 : fuse ≤ 9223372036854775807) (hok : nameOk s.data.toList = true) (hf : fuse ≠ 0)
    (hr : RdB w A b) (hm : b.length = m) (hmc : m ≤ c) (hml : m ≤ reach) (hr1 : 0 ≤ room) (hr2 : room ≤ 1099511627776) (hsh : sh < m) (hx : ¬ idxD R s.data.toList < R.length) (hA : 1048576 < 0 + sh) :
    Calls Tryz.prog 22 #[.pointer (some ⟨gx, 0, none⟩), .string s, .slice A m c] w fun e w' => e = .returned (.tuple #[.int .i64 0, .int .i64 4]) ∧ AfterD w w' gx v R (R.map RF.fl) room (-1) (chFuse true fuse) := by
  obtain ⟨i0, hi0, hz0, hz1, hz2⟩ := info_parts info_u8
  have HN := Shut.mk (risName_calls s w hs)
  rw [hok] at HN
  have HB := Shut.mk (burn_calls hR f0 f1)
  rw [decide_eq_true hf] at HB
  generalize chFuse true fuse = fu at HB ⊢
  have HP := Shut.mk hp
  have HX := Shut.mk hx
  have HROW := Shut.mk hR.row_ne
  have HOWN := Shut.mk (fun (c : RF) (hc : c ∈ R) => hR.own_ne hc)
  have HLT := Shut.mk hR.blk.lt
  have HR0 := Shut.mk (hr.take sh)
  have HBM := Shut.mk (show (b.take sh).length = sh by rw [List.length_take]; omega)
  generalize b.take sh = bb at HR0 HBM ⊢
  have HRK := Shut.mk (fun (w' : World) (h : Kb w w' [gx]) => rdB_gx hR HR0.out h)
  have HLE := Shut.mk (fun c (hc : c ∈ R) => usedR_mem hc)
  unfold reach at hml
  have hpv : placeV R s.data.toList = -1 := by simp [placeV, hx]
  have HNO := Shut.mk (idx_none hx)
  have HPV := Shut.mk hpv
  have HRL := Shut.mk (fun (h : R.length < 900000) => h)
  clear hok hs hf hr hm hR hp hx hpv
  go_enter Tryz.func22, Tryz.ntmps22
  go_wp2_with fail
  refine HN.out.mono ?_
  rintro e w1 ⟨rfl, rfl⟩
  go_wp2_with fail
  refine HB.out.mono ?_
  rintro e w2 ⟨rfl, hR2, hk2⟩
  have q2 : w2.cell? ⟨gx, 2, none⟩ = some (.int .i64 (sh : Int)) := hR2.blk.cell 2
  have f2 := hR2.blk.free 2
  have HR3 := Shut.mk (hR2.num 2 (.int .i64 (-1)) (room' := room) (short' := -1) (fuse' := fu) rfl)
  have HK3 := Shut.mk (hk2.setCell (p := ⟨gx, 2, none⟩) (by simp) (.int .i64 (-1)))
  clear hk2 HB HN hR2
  have hs1 : (sh : Int) ≥ 0 := by omega
  have hs2 : ((m : Int) > (sh : Int)) := by omega
  have hs3 : sh ≤ c := by omega
  go_wp2_with fail
  generalize w2.setCell ⟨gx, 2, none⟩ (.int .i64 (-1)) = w3 at HR3 HK3 ⊢
  have HPL := Shut.mk (dplace_calls HR3.out s (by omega))
  rw [HPV.out] at HPL
  clear q2 f2
  refine HPL.out.mono ?_
  rintro e w4 ⟨rfl, hb4⟩
  have HR4 := Shut.mk (HR3.out.below hb4)
  have HK4 := Shut.mk (HK3.out.below_ hb4)
  clear hb4 HPL HR3 HK3
  have s1 : w4.cell? ⟨gx, 1, none⟩ = some (.int .i64 room) := HR4.out.blk.cell 1
  have hgx := World.block_lt_of_cell? _ _ s1
  go_wp2_with fail
  have hw1 : IntKind.i64.wrap (sh : Int) = (sh : Int) := by rw [IntKind.wrap_i64]; omega
  have d1 : decide ((1048576 : Int) < (sh : Int)) = true := decide_eq_true (by omega)
  go_quiet (fail)
  go_wp2_with fail
  go_ret2
  exact ⟨rfl, AfterD.num (HR4.out.below ⟨rfl, rfl, rfl, Nat.le_refl _, fun _ _ => rfl⟩) (HK4.out.below_ ⟨rfl, rfl, rfl, Nat.le_refl _, fun _ _ => rfl⟩)⟩
set_option maxHeartbeats 2000000 in
theorem rappend_cn2 (sh : Nat) (hR : RdAt w gx v R room (sh : Int) fuse) (hp : (R.map RF.fl).Pairwise fun a b => a.1 ≠ b.1) (hl : R.length < 900000) (hu : usedR R ≤ 1099511627776) (s : ByteArray) (A : Option Addr) (m c : Nat) (b : List UInt8) (hs : s.size ≤ reach) (f0 : -1 ≤ fuse) (f1 : fuse ≤ 9223372036854775807) (hok : nameOk s.data.toList = true) (hf : fuse ≠ 0)
    (hr : RdB w A b) (hm : b.length = m) (hmc : m ≤ c) (hml : m ≤ reach) (hr1 : 0 ≤ room) (hr2 : room ≤ 1099511627776) (hsh : sh < m) (hx : ¬ idxD R s.data.toList < R.length) (hA : 0 + sh ≤ 1048576) (hB : room < usedR R + sh) :
    Calls Tryz.prog 22 #[.pointer (some ⟨gx, 0, none⟩), .string s, .slice A m c] w fun e w' => e = .returned (.tuple #[.int .i64 0, .int .i64 4]) ∧ AfterD w w' gx v R (R.map RF.fl) room (-1) (chFuse true fuse) := by
  obtain ⟨i0, hi0, hz0, hz1, hz2⟩ := info_parts info_u8
  have HN := Shut.mk (risName_calls s w hs)
  rw [hok] at HN
  have HB := Shut.mk (burn_calls hR f0 f1)
  rw [decide_eq_true hf] at HB
  generalize chFuse true fuse = fu at HB ⊢
  have HP := Shut.mk hp
  have HX := Shut.mk hx
  have HROW := Shut.mk hR.row_ne
  have HOWN := Shut.mk (fun (c : RF) (hc : c ∈ R) => hR.own_ne hc)
  have HLT := Shut.mk hR.blk.lt
  have HR0 := Shut.mk (hr.take sh)
  have HBM := Shut.mk (show (b.take sh).length = sh by rw [List.length_take]; omega)
  generalize b.take sh = bb at HR0 HBM ⊢
  have HRK := Shut.mk (fun (w' : World) (h : Kb w w' [gx]) => rdB_gx hR HR0.out h)
  have HLE := Shut.mk (fun c (hc : c ∈ R) => usedR_mem hc)
  unfold reach at hml
  have hpv : placeV R s.data.toList = -1 := by simp [placeV, hx]
  have HNO := Shut.mk (idx_none hx)
  have HPV := Shut.mk hpv
  have HRL := Shut.mk (fun (h : R.length < 900000) => h)
  clear hok hs hf hr hm hR hp hx hpv
  go_enter Tryz.func22, Tryz.ntmps22
  go_wp2_with fail
  refine HN.out.mono ?_
  rintro e w1 ⟨rfl, rfl⟩
  go_wp2_with fail
  refine HB.out.mono ?_
  rintro e w2 ⟨rfl, hR2, hk2⟩
  have q2 : w2.cell? ⟨gx, 2, none⟩ = some (.int .i64 (sh : Int)) := hR2.blk.cell 2
  have f2 := hR2.blk.free 2
  have HR3 := Shut.mk (hR2.num 2 (.int .i64 (-1)) (room' := room) (short' := -1) (fuse' := fu) rfl)
  have HK3 := Shut.mk (hk2.setCell (p := ⟨gx, 2, none⟩) (by simp) (.int .i64 (-1)))
  clear hk2 HB HN hR2
  have hs1 : (sh : Int) ≥ 0 := by omega
  have hs2 : ((m : Int) > (sh : Int)) := by omega
  have hs3 : sh ≤ c := by omega
  go_wp2_with fail
  generalize w2.setCell ⟨gx, 2, none⟩ (.int .i64 (-1)) = w3 at HR3 HK3 ⊢
  have HPL := Shut.mk (dplace_calls HR3.out s (by omega))
  rw [HPV.out] at HPL
  clear q2 f2
  refine HPL.out.mono ?_
  rintro e w4 ⟨rfl, hb4⟩
  have HR4 := Shut.mk (HR3.out.below hb4)
  have HK4 := Shut.mk (HK3.out.below_ hb4)
  clear hb4 HPL HR3 HK3
  have s1 : w4.cell? ⟨gx, 1, none⟩ = some (.int .i64 room) := HR4.out.blk.cell 1
  have hgx := World.block_lt_of_cell? _ _ s1
  go_wp2_with fail
  have hw1 : IntKind.i64.wrap (sh : Int) = (sh : Int) := by rw [IntKind.wrap_i64]; omega
  have d1 : decide ((1048576 : Int) < (sh : Int)) = false := decide_eq_false (by omega)
  have HU0 := Shut.mk (rused_calls (w := w4.drew) (HR4.out.below ⟨rfl, rfl, rfl, Nat.le_refl _, fun _ _ => rfl⟩) (by omega) hu)
  have hw2 : IntKind.i64.wrap ((usedR R : Int) + (sh : Int)) = (usedR R : Int) + (sh : Int) := by rw [IntKind.wrap_i64]; omega
  have d2 : decide (room < (usedR R : Int) + (sh : Int)) = true := decide_eq_true (by omega)
  go_region_held3 (fun w' => w'.cell? ⟨gx, 1, none⟩ = some (.int .i64 room))
    (first | exact s1 | exact t1 | go_keep)
    (first | (go_at_call 70; refine HU0.out.mono ?_; rintro e w5 ⟨rfl, hb5⟩; have t1 := (hb5.cell hgx).trans s1))
  have hb5' := below_of_drew hb5
  have HR5 := Shut.mk (HR4.out.below hb5')
  have HK5 := Shut.mk (HK4.out.below_ hb5')
  clear hb5 HU0
  go_wp2_with fail
  go_ret2
  exact ⟨rfl, AfterD.num HR5.out HK5.out⟩
set_option maxHeartbeats 2000000 in
theorem rappend_cn3 (sh : Nat) (hR : RdAt w gx v R room (sh : Int) fuse) (hp : (R.map RF.fl).Pairwise fun a b => a.1 ≠ b.1) (hl : R.length < 900000) (hu : usedR R ≤ 1099511627776) (s : ByteArray) (A : Option Addr) (m c : Nat) (b : List UInt8) (hs : s.size ≤ reach) (f0 : -1 ≤ fuse) (f1 : fuse ≤ 9223372036854775807) (hok : nameOk s.data.toList = true) (hf : fuse ≠ 0)
    (hr : RdB w A b) (hm : b.length = m) (hmc : m ≤ c) (hml : m ≤ reach) (hr1 : 0 ≤ room) (hr2 : room ≤ 1099511627776) (hsh : sh < m) (hx : ¬ idxD R s.data.toList < R.length) (hA : 0 + sh ≤ 1048576) (hB : usedR R + sh ≤ room) :
    Calls Tryz.prog 22 #[.pointer (some ⟨gx, 0, none⟩), .string s, .slice A m c] w fun e w' => e = .returned (.tuple #[.int .i64 (sh : Int), .int .i64 61]) ∧ AfterD w w' gx v R (insF (s.data.toList, (b.take sh), 0) (R.map RF.fl)) room (-1) (chFuse true fuse) := by
  obtain ⟨i0, hi0, hz0, hz1, hz2⟩ := info_parts info_u8
  have HN := Shut.mk (risName_calls s w hs)
  rw [hok] at HN
  have HB := Shut.mk (burn_calls hR f0 f1)
  rw [decide_eq_true hf] at HB
  generalize chFuse true fuse = fu at HB ⊢
  have HP := Shut.mk hp
  have HX := Shut.mk hx
  have HROW := Shut.mk hR.row_ne
  have HOWN := Shut.mk (fun (c : RF) (hc : c ∈ R) => hR.own_ne hc)
  have HLT := Shut.mk hR.blk.lt
  have HR0 := Shut.mk (hr.take sh)
  have HBM := Shut.mk (show (b.take sh).length = sh by rw [List.length_take]; omega)
  generalize b.take sh = bb at HR0 HBM ⊢
  have HRK := Shut.mk (fun (w' : World) (h : Kb w w' [gx]) => rdB_gx hR HR0.out h)
  have HLE := Shut.mk (fun c (hc : c ∈ R) => usedR_mem hc)
  unfold reach at hml
  have hpv : placeV R s.data.toList = -1 := by simp [placeV, hx]
  have HNO := Shut.mk (idx_none hx)
  have HPV := Shut.mk hpv
  have HRL := Shut.mk (fun (h : R.length < 900000) => h)
  clear hok hs hf hr hm hR hp hx hpv
  go_enter Tryz.func22, Tryz.ntmps22
  go_wp2_with fail
  refine HN.out.mono ?_
  rintro e w1 ⟨rfl, rfl⟩
  go_wp2_with fail
  refine HB.out.mono ?_
  rintro e w2 ⟨rfl, hR2, hk2⟩
  have q2 : w2.cell? ⟨gx, 2, none⟩ = some (.int .i64 (sh : Int)) := hR2.blk.cell 2
  have f2 := hR2.blk.free 2
  have HR3 := Shut.mk (hR2.num 2 (.int .i64 (-1)) (room' := room) (short' := -1) (fuse' := fu) rfl)
  have HK3 := Shut.mk (hk2.setCell (p := ⟨gx, 2, none⟩) (by simp) (.int .i64 (-1)))
  clear hk2 HB HN hR2
  have hs1 : (sh : Int) ≥ 0 := by omega
  have hs2 : ((m : Int) > (sh : Int)) := by omega
  have hs3 : sh ≤ c := by omega
  go_wp2_with fail
  generalize w2.setCell ⟨gx, 2, none⟩ (.int .i64 (-1)) = w3 at HR3 HK3 ⊢
  have HPL := Shut.mk (dplace_calls HR3.out s (by omega))
  rw [HPV.out] at HPL
  clear q2 f2
  refine HPL.out.mono ?_
  rintro e w4 ⟨rfl, hb4⟩
  have HR4 := Shut.mk (HR3.out.below hb4)
  have HK4 := Shut.mk (HK3.out.below_ hb4)
  clear hb4 HPL HR3 HK3
  have s1 : w4.cell? ⟨gx, 1, none⟩ = some (.int .i64 room) := HR4.out.blk.cell 1
  have hgx := World.block_lt_of_cell? _ _ s1
  go_wp2_with fail
  have hw1 : IntKind.i64.wrap (sh : Int) = (sh : Int) := by rw [IntKind.wrap_i64]; omega
  have d1 : decide ((1048576 : Int) < (sh : Int)) = false := decide_eq_false (by omega)
  have HU0 := Shut.mk (rused_calls (w := w4.drew) (HR4.out.below ⟨rfl, rfl, rfl, Nat.le_refl _, fun _ _ => rfl⟩) (by omega) hu)
  have hw2 : IntKind.i64.wrap ((usedR R : Int) + (sh : Int)) = (usedR R : Int) + (sh : Int) := by rw [IntKind.wrap_i64]; omega
  have d2 : decide (room < (usedR R : Int) + (sh : Int)) = false := decide_eq_false (by omega)
  go_region_held3 (fun w' => w'.cell? ⟨gx, 1, none⟩ = some (.int .i64 room))
    (first | exact s1 | exact t1 | go_keep)
    (first | (go_at_call 70; refine HU0.out.mono ?_; rintro e w5 ⟨rfl, hb5⟩; have t1 := (hb5.cell hgx).trans s1))
  have hb5' := below_of_drew hb5
  have HR5 := Shut.mk (HR4.out.below hb5')
  have HK5 := Shut.mk (HK4.out.below_ hb5')
  clear hb5 HU0
  clear hb5' HR4 HK4
  have hs5 := HK5.out.size
  have HAD := Shut.mk (radd_calls HR5.out ⟨s, none, 0, [], 0⟩ (Own.nil _ _ _) (by omega))
  have HIA := Shut.mk (insD_at ⟨s, none, 0, [], 0⟩ R HNO.out)
  have HIS := Shut.mk (fun (y : RF) (hk : y.k.data.toList = s.data.toList) => insD_set ⟨s, none, 0, [], 0⟩ y hk R HNO.out)
  have HIL := Shut.mk (show (insD ⟨s, none, 0, [], 0⟩ R).length = R.length + 1 by rw [(insD_perm _ R).length_eq]; rfl)
  have HIM := Shut.mk (fun c => (insD_perm ⟨s, none, 0, [], 0⟩ R).mem_iff (a := c))
  generalize insD ⟨s, none, 0, [], 0⟩ R = R6 at HAD HIA HIS HIL HIM
  go_wp2_with fail
  refine HAD.out.mono ?_
  rintro e w6 ⟨rfl, v6, hR6, hk6, hv6⟩
  have HK6 := Shut.mk (HK5.out.trans hk6 (fun x hx => .inl hx))
  have HPL := Shut.mk (dplace_calls hR6 s (by rw [HIL.out]; omega))
  obtain ⟨k, hk⟩ : ∃ k, k = idxD R6 s.data.toList := ⟨_, rfl⟩
  have hiA : R6[idxD R6 s.data.toList]? = some ⟨s, none, 0, [], 0⟩ := HIA.out
  rw [← hk] at hiA
  have hi6 : k < R6.length := (List.getElem?_eq_some_iff.1 hiA).1
  have hpv : placeV R6 s.data.toList = (k : Int) := by unfold placeV; rw [← hk, if_pos hi6]
  rw [hpv] at HPL
  have HIS2 := Shut.mk (fun y h => by have h9 := HIS.out y h; rw [← hk] at h9; exact h9 : ∀ (y : RF), y.k.data.toList = s.data.toList → (R6.set k y).map RF.fl = insF y.fl (R.map RF.fl))
  have HXA := Shut.mk hiA
  clear hiA hk hpv HIA HIS hk6 HAD HK5
  have HR6 := Shut.mk hR6
  have HNV := Shut.mk hv6
  clear hR6 hv6
  go_wp2_with fail
  refine HPL.out.mono ?_
  rintro e w7 ⟨rfl, hb7⟩
  have HR7 := Shut.mk (HR6.out.below hb7)
  have HK7 := Shut.mk (HK6.out.below_ hb7)
  clear hb7 HPL HR6 HK6
  obtain ⟨g, cap, hv, hnc, hcm, hcell⟩ := HR7.out.head (by omega)
  obtain ⟨N, hN⟩ : ∃ N, N = R6.length := ⟨_, rfl⟩
  rw [← hN] at hi6 hv hnc HIL
  have HN := Shut.mk hN
  unfold maxLen at hcm
  have hNl : N < 1000000 := by rw [HIL.out]; omega
  have c1 : w7.cell? ⟨g, k * 3 + 1, none⟩ = some (.slice none 0 0) := hcell (k * 3 + 1) _ (rfs_get HXA.out 1 (by omega))
  have c0 : w7.cell? ⟨gx, 0, none⟩ = some (.slice (some ⟨g, 0, none⟩) N cap) := by rw [← hv]; exact HR7.out.blk.cell 0
  have HV := Shut.mk hv
  have hkI : (k : Int) < (N : Int) := by omega
  have hk0' : ¬ (k : Int) < 0 := by omega
  clear hv hN hcell s1 t1
  have hgl := World.block_lt_of_cell? _ _ c1
  have hgx7 := World.block_lt_of_cell? _ _ c0
  have HRB := Shut.mk (HRK.out _ HK7.out)
  have hba : Below w7.heap.size w7 (w7.alloc (.cells #[] 5)).drew := by have := (Below.refl _ w7).alloc (Nat.le_refl _) (.cells #[] 5); exact ⟨this.os, this.tape, this.output, this.size, this.block⟩
  have d0 : (w7.alloc (.cells #[] 5)).cell? ⟨gx, 0, none⟩ = some (.slice (some ⟨g, 0, none⟩) N cap) := (World.cell?_alloc_lt w7 _ _ (World.block_lt_of_cell? w7 _ c0)).trans c0
  have d2 : (w7.alloc (.cells #[] 5)).cell? ⟨g, k * 3 + 1, none⟩ = some (.slice none 0 0) := (World.cell?_alloc_lt w7 _ _ (World.block_lt_of_cell? w7 _ c1)).trans c1
  have HOE := Shut.mk (show Own (w7.alloc (.cells #[] 5)).drew 5 1 (.slice (some ⟨w7.heap.size, 0, none⟩) 0 0) 0 [] from own_empty w7 _ _)
  have HRC := Shut.mk (show Rd (w7.alloc (.cells #[] 5)).drew none (bys ([] : List UInt8)) from Rd.nil _ _)
  have HCL := Shut.mk (show (bys ([] : List UInt8)).length = 0 * 1 from rfl)
  have HBL := Shut.mk (show (bys bb).length = sh * 1 by rw [bys_length, HBM.out, Nat.mul_one])
  have HBA := Shut.mk hba
  have HC1 := Shut.mk c1
  have HC0 := Shut.mk c0
  clear hba
  go_wp2_with fail
  go_region_law (first
    | (refine step_append _ (by rfl) _ _ _ (by rfl) 5 i0 _ 1 1 Tryz.underlying27 hi0 hz0 hz1 hz2 rfl (by decide) _ _ _ (by rfl) HOE.out _ 0 (0) _ (by rfl) HCL.out HRC.out (bys_one _) (by simp only [maxLen]; omega) (by omega) ?_
       intro v8 w8 hap
       obtain ⟨A8, c8, hv8, _⟩ := hap.own.form
       rw [Nat.zero_add] at hv8
       subst hv8
       have HO8 := Shut.mk (hap.own.cast (Nat.zero_add 0) (List.nil_append _))
       have hb8 : Below w7.heap.size w7 w8 := HBA.out.grown hap.grown (by have := HBA.out.size; exact this) (fun r hr => by cases hr; exact Nat.le_refl _)
       have hl8 : ∀ g', (Value.slice A8 0 c8).ownBlock = some g' → w7.heap.size ≤ g' := fun g' hg' => by
         rcases hap.lies with h | h
         · rw [h] at hg'; cases hg'; exact Nat.le_refl _
         · rw [h] at hg'; injection hg' with hg'; rw [← hg']; exact HBA.out.size
       have e0 : w8.cell? ⟨gx, 0, none⟩ = some (.slice (some ⟨g, 0, none⟩) N cap) := (hb8.cell hgx7).trans HC0.out
       have e2 := (hb8.cell hgl).trans HC1.out
       have hR8 := rd_of_rdB (HRB.out.keep hb8)
       have HR8 := Shut.mk hR8
       have HB8 := Shut.mk hb8
       have HL8 := Shut.mk hl8
       clear hap hb8 hl8 hR8)
    | (refine step_append _ (by rfl) _ _ _ (by rfl) 5 i0 _ 1 1 Tryz.underlying27 hi0 hz0 hz1 hz2 rfl (by decide) _ _ _ (by rfl) HO8.out _ sh c _ (by rfl) HBL.out HR8.out (bys_one _) (by simp only [maxLen]; omega) (by omega) ?_
       intro v9 w9 hap
       obtain ⟨A9, c9, hv9, _⟩ := hap.own.form
       rw [Nat.zero_add] at hv9
       subst hv9
       have HO9 := Shut.mk (hap.own.cast (n' := sh) (by rw [Nat.zero_add]) rfl)
       have hb9 : Below w7.heap.size w7 w9 := HB8.out.grown hap.grown HB8.out.size (fun r hr => HL8.out r hr)
       have hl9 : ∀ g', (Value.slice A9 (sh) c9).ownBlock = some g' → w7.heap.size ≤ g' := fun g' hg' => by
         rcases hap.lies with h | h
         · rw [h] at hg'; exact HL8.out g' hg'
         · rw [h] at hg'; injection hg' with hg'; rw [← hg']; exact HB8.out.size
       have hRn := HR7.out.below hb9
       have e0 : w9.cell? ⟨gx, 0, none⟩ = some (.slice (some ⟨g, 0, none⟩) N cap) := by rw [← HV.out]; exact hRn.blk.cell 0
       have ef : w9.frozen? ⟨g, k * 3 + 1, none⟩ = false := by
         have := hRn.own
         rw [HV.out] at this
         rw [← HN.out] at this
         exact this.freeAt _
       have e2 := (hb9.cell hgl).trans HC1.out
       have HRN := Shut.mk hRn
       have HB9 := Shut.mk hb9
       have HL9 := Shut.mk hl9
       clear hap hb9 hl9 hRn))
  all_goals (
    have e9 : (Value.slice A9 (sh) c9) = .slice A9 (([] : List UInt8) ++ bb).length c9 := by rw [List.length_append, HBM.out]; try first | rfl | (simp; done)
    have hT := HRN.out.turnb HXA.out HV.out (A := A9) (cp := c9) (b := ([] : List UInt8) ++ bb) (by rw [← e9]; exact HO9.out.cast (by rw [List.length_append, HBM.out]; try first | rfl | (simp; done)) (bys_append _ _).symm)
    have hK : Kb w (w9.setCell ⟨g, k * 3 + 1, none⟩ (.slice A9 (([] : List UInt8) ++ bb).length c9)) (footD gx v R ++ [g]) := ((HK7.out.mono (L' := footD gx v R ++ [g]) (by simp [footD])).below_ HB9.out).setCell (by simp) _
    rw [e9]
    generalize w9.setCell ⟨g, k * 3 + 1, none⟩ (.slice A9 (([] : List UInt8) ++ bb).length c9) = w10 at hT hK ⊢
    have HL10 := Shut.mk (e9 ▸ HL9.out)
    have HT := Shut.mk hT
    have HK := Shut.mk hK
    clear hT hK
    go_wp2_with fail
    go_ret2
    have hkv : g = g := rfl
    refine ⟨rfl, AfterD.set HT.out (HIS2.out ⟨s, A9, c9, [] ++ bb, 0⟩ rfl) (HK.out.fresh fun x hx => ?_) (fun g' hg' => .inr (Nat.le_trans hs5 (HNV.out g' hg'))) (fun c hc g' hg' => ?_)⟩
    · rcases List.mem_append.1 hx with hx | hx
      · exact .inl hx
      · rw [List.mem_singleton.1 hx]
        exact .inr (Nat.le_trans hs5 (HNV.out g (by rw [HV.out]; rfl)))
    · rcases List.mem_or_eq_of_mem_set hc with hc | rfl
      · rcases List.mem_cons.1 (HIM.out c |>.1 hc) with rfl | hc
        · cases hg'
        · exact .inl (footD_own hc hg')
      · exact .inr (Nat.le_trans HK7.out.size (HL10.out g' hg')))
end
end Go.Proofs.YtmlfeljhojmbbaaGreatDoor

namespace Go.Proofs.YtmlfeljhojmbbaaGreatDoor
open Go.RowKit Go.Maps
set_option linter.unusedSimpArgs false
set_option linter.unusedVariables false
set_option maxRecDepth 100000

def NRd (w : World) (gx : Nat) (G : List Nat) (T : List Fl) (room short fuse : Int) : Prop := ∃ v R, RdAt w gx v R room short fuse ∧ R.map RF.fl = T ∧ ∀ x ∈ footD gx v R, x ∈ G
def RSt (w w' : World) (gx : Nat) (G : List Nat) (T : List Fl) (room short fuse : Int) : Prop := ∃ G', NRd w' gx G' T room short fuse ∧ Kb w w' G ∧ ∀ x ∈ G', x ∈ G ∨ w.heap.size ≤ x
/-- the files as the document has them: rising names, not too much -/
structure TOk (T : List Fl) : Prop where
  rising : T.Pairwise fun a b => a.1 < b.1
  sum : used T ≤ 1099511627776
  lens : ∀ x ∈ T, x.2.2 ≤ x.2.1.length ∧ x.2.1.length ≤ 1048576
  len : T.length < 900000
theorem TOk.keys {T : List Fl} (h : TOk T) : T.Pairwise fun a b => a.1 ≠ b.1 := h.rising.imp fun {a b} h => (fun (e : a.1 = b.1) => List.lt_irrefl b.1 (by rw [e] at h; exact h))
def addT (T : List Fl) (k b : List UInt8) : List Fl :=
  match look T k with
  | some _ => addF T k b
  | none => insF (k, b, 0) T
/-- what the document's Append leaves -/
def appT (T : List Fl) (room short fuse : Int) (s b : List UInt8) : List Fl :=
  if chErr (nameOk s) fuse ≠ 0 then T
  else if 1048576 < lenF T s + appLen short b.length ∨ room < used T + appLen short b.length then T
  else addT T s (b.take (appLen short b.length))
section
variable {w w' : World} {gx : Nat} {G : List Nat} {T : List Fl} {room short fuse : Int}
theorem RSt.of_after {v : Value} {R : List RF} {T' : List Fl} {room' short' fuse' : Int} (h : AfterD w w' gx v R T' room' short' fuse') (hG : ∀ x ∈ footD gx v R, x ∈ G) : RSt w w' gx G T' room' short' fuse' := by
  obtain ⟨⟨v', R', h1, h2, h3⟩, h4⟩ := h
  exact ⟨footD gx v' R', ⟨v', R', h1, h2, fun x hx => hx⟩, h4.mono hG, fun x hx => (h3 x hx).elim (fun h => .inl (hG x h)) .inr⟩
theorem NRd.below (h : NRd w gx G T room short fuse) (hb : Below w.heap.size w w') : NRd w' gx G T room short fuse := by
  obtain ⟨v, R, h1, h2, h3⟩ := h
  exact ⟨v, R, h1.below hb, h2, h3⟩
theorem NRd.kept (h : NRd w gx G T room short fuse) {L : List Nat} (hk : Kb w w' L) (hL : ∀ x ∈ G, x ∉ L) : NRd w' gx G T room short fuse := by
  obtain ⟨v, R, h1, h2, h3⟩ := h
  exact ⟨v, R, h1.keep hk fun x hx => hL x (h3 x hx), h2, h3⟩
theorem NRd.tight (h : NRd w gx G T room short fuse) : ∃ G0, NRd w gx G0 T room short fuse ∧ (∀ x ∈ G0, x ∈ G) ∧ ∀ x ∈ G0, x < w.heap.size := by
  obtain ⟨v, R, h1, h2, h3⟩ := h
  exact ⟨footD gx v R, ⟨v, R, h1, h2, fun x hx => hx⟩, h3, fun x hx => h1.lt hx⟩
theorem RSt.same (h : NRd w gx G T room short fuse) : RSt w w gx G T room short fuse := ⟨G, h, Kb.refl _ _, fun x hx => .inl hx⟩
theorem RSt.quiet (h : NRd w gx G T room short fuse) (hb : Below w.heap.size w w') : RSt w w' gx G T room short fuse := ⟨G, h.below hb, Kb.of_below hb _, fun x hx => .inl hx⟩
theorem lenF_idx {R : List RF} {s : List UInt8} {x : RF} (h : R[idxD R s]? = some x) : lenF (R.map RF.fl) s = x.b.length := by
  unfold lenF
  rw [look_idx, h]
  rfl
theorem lenF_idx_none {R : List RF} {s : List UInt8} (h : R[idxD R s]? = none) : lenF (R.map RF.fl) s = 0 := by
  unfold lenF
  rw [look_idx, h]
  rfl
theorem addF_setF {T : List Fl} {k b b0 : List UInt8} {sy : Nat} (h : look T k = some (b0, sy)) : addF T k b = setF T k (b0 ++ b) sy := by
  unfold addF setF
  rw [h]
theorem rd_append (h : NRd w gx G T room short fuse) (ht : TOk T) (hr0 : 0 ≤ room) (hr1 : room ≤ 1099511627776) (hs0 : -1 ≤ short) (hs1 : short ≤ 9223372036854775807) (f0 : -1 ≤ fuse) (f1 : fuse ≤ 9223372036854775807) (s : ByteArray) (A : Option Addr) (m c : Nat) (b : List UInt8) (hs : s.size ≤ reach) (hr : RdB w A b) (hm : b.length = m) (hmc : m ≤ c) (hml : m ≤ reach) :
    Calls Tryz.prog 22 #[.pointer (some ⟨gx, 0, none⟩), .string s, .slice A m c] w fun e w' => e = .returned (.tuple #[.int .i64 ((dApp ⟨T, 0, room, short, fuse⟩ s.data.toList b).2.1 : Int), .int .i64 (dApp ⟨T, 0, room, short, fuse⟩ s.data.toList b).1]) ∧
      RSt w w' gx G (appT T room short fuse s.data.toList b) room (dApp ⟨T, 0, room, short, fuse⟩ s.data.toList b).2.2.short (dApp ⟨T, 0, room, short, fuse⟩ s.data.toList b).2.2.fuse := by
  subst hm
  obtain ⟨v, R, hR, rfl, hG⟩ := h
  unfold dApp appT
  have hlen : R.length < 900000 := by have := ht.len; rwa [List.length_map] at this
  have hu : usedR R ≤ 1099511627776 := by rw [← usedR_fl]; exact ht.sum
  have hur : used (R.map RF.fl) = usedR R := usedR_fl R
  cases hok : nameOk s.data.toList with
  | false =>
    have h1 : chErr false fuse = 1 := rfl
    rw [h1, if_pos (by decide), if_pos (by decide)]
    refine (rappend_bad s A b.length c hs hok w).mono ?_
    rintro e w' ⟨rfl, rfl⟩
    exact ⟨rfl, RSt.same ⟨v, R, hR, rfl, hG⟩⟩
  | true =>
    by_cases hf : fuse = 0
    · subst hf
      have h1 : chErr true 0 = 62 := rfl
      rw [h1, if_pos (by decide), if_pos (by decide)]
      refine (rappend_dead hR s A b.length c hs hok).mono ?_
      rintro e w' ⟨rfl, h2, h3⟩
      exact ⟨rfl, RSt.of_after (AfterD.num h2 h3) hG⟩
    · have h1 : chErr true fuse = 0 := chErr_tt hf
      rw [h1, if_neg (show ¬ (0 : Int) ≠ 0 by decide), if_neg (show ¬ (0 : Int) ≠ 0 by decide)]
      simp only [hur]
      have hta : b.take b.length = b := List.take_length
      by_cases h1 : short = -1
      · subst h1
        have ha : appLen (-1) b.length = b.length := by simp [appLen]
        simp only [ha]
        cases hx : R[idxD R s.data.toList]? with
        | none =>
          have hx' : ¬ idxD R s.data.toList < R.length := fun h => by rw [List.getElem?_eq_getElem h] at hx; cases hx
          rw [lenF_idx_none hx]
          by_cases hA : 1048576 < 0 + b.length
          · rw [if_pos (.inl hA), if_pos (.inl hA)]
            refine (rappend_nn1 hR ht.keys hlen hu s A b.length c b hs f0 f1 hok hf hr rfl hmc hml hr0 hr1 hx' hA).mono ?_
            rintro e w' ⟨he, ha⟩
            exact ⟨he, RSt.of_after ha hG⟩
          · by_cases hB : room < (usedR R : Int) + (b.length : Nat)
            · rw [if_pos (.inr hB), if_pos (.inr hB)]
              refine (rappend_nn2 hR ht.keys hlen hu s A b.length c b hs f0 f1 hok hf hr rfl hmc hml hr0 hr1 hx' (by omega) hB).mono ?_
              rintro e w' ⟨he, ha⟩
              exact ⟨he, RSt.of_after ha hG⟩
            · rw [if_neg (fun h : _ ∨ _ => h.elim hA hB), if_neg (fun h : _ ∨ _ => h.elim hA hB)]
              refine (rappend_nn3 hR ht.keys hlen hu s A b.length c b hs f0 f1 hok hf hr rfl hmc hml hr0 hr1 hx' (by omega) (by omega)).mono ?_
              rintro e w' ⟨he, ha⟩
              refine ⟨?_, ?_⟩
              · rw [he]
                simp only []
                rw [if_neg (Nat.lt_irrefl _)]
              · have h8 := RSt.of_after ha hG
                unfold addT
                rw [look_idx, hx]
                simp only [Option.map_some, Option.map_none]
                rw [hta]
                exact h8
        | some x =>
          rw [lenF_idx hx]
          by_cases hA : 1048576 < x.b.length + b.length
          · rw [if_pos (.inl hA), if_pos (.inl hA)]
            refine (rappend_no1 hR ht.keys hlen hu s A b.length c b hs f0 f1 hok hf hr rfl hmc hml hr0 hr1 hx hA).mono ?_
            rintro e w' ⟨he, ha⟩
            exact ⟨he, RSt.of_after ha hG⟩
          · by_cases hB : room < (usedR R : Int) + (b.length : Nat)
            · rw [if_pos (.inr hB), if_pos (.inr hB)]
              refine (rappend_no2 hR ht.keys hlen hu s A b.length c b hs f0 f1 hok hf hr rfl hmc hml hr0 hr1 hx (by omega) hB).mono ?_
              rintro e w' ⟨he, ha⟩
              exact ⟨he, RSt.of_after ha hG⟩
            · rw [if_neg (fun h : _ ∨ _ => h.elim hA hB), if_neg (fun h : _ ∨ _ => h.elim hA hB)]
              refine (rappend_no3 hR ht.keys hlen hu s A b.length c b hs f0 f1 hok hf hr rfl hmc hml hr0 hr1 hx (by omega) (by omega)).mono ?_
              rintro e w' ⟨he, ha⟩
              refine ⟨?_, ?_⟩
              · rw [he]
                simp only []
                rw [if_neg (Nat.lt_irrefl _)]
              · have h8 := RSt.of_after ha hG
                unfold addT
                rw [look_idx, hx]
                simp only [Option.map_some, Option.map_none]
                rw [addF_setF (by rw [look_idx, hx]; rfl)]
                rw [hta]
                exact h8
      · obtain ⟨sh, rfl⟩ : ∃ sh : Nat, short = (sh : Int) := ⟨short.toNat, by omega⟩
        by_cases h2 : sh < b.length
        · have ha : appLen (sh : Int) b.length = sh := by
            unfold appLen
            rw [if_pos ⟨by omega, by omega⟩]
            rfl
          simp only [ha]
          cases hx : R[idxD R s.data.toList]? with
          | none =>
            have hx' : ¬ idxD R s.data.toList < R.length := fun h => by rw [List.getElem?_eq_getElem h] at hx; cases hx
            rw [lenF_idx_none hx]
            by_cases hA : 1048576 < 0 + sh
            · rw [if_pos (.inl hA), if_pos (.inl hA)]
              refine (rappend_cn1 sh hR ht.keys hlen hu s A b.length c b hs f0 f1 hok hf hr rfl hmc hml hr0 hr1 h2 hx' hA).mono ?_
              rintro e w' ⟨he, ha⟩
              exact ⟨he, RSt.of_after ha hG⟩
            · by_cases hB : room < (usedR R : Int) + (sh : Nat)
              · rw [if_pos (.inr hB), if_pos (.inr hB)]
                refine (rappend_cn2 sh hR ht.keys hlen hu s A b.length c b hs f0 f1 hok hf hr rfl hmc hml hr0 hr1 h2 hx' (by omega) hB).mono ?_
                rintro e w' ⟨he, ha⟩
                exact ⟨he, RSt.of_after ha hG⟩
              · rw [if_neg (fun h : _ ∨ _ => h.elim hA hB), if_neg (fun h : _ ∨ _ => h.elim hA hB)]
                refine (rappend_cn3 sh hR ht.keys hlen hu s A b.length c b hs f0 f1 hok hf hr rfl hmc hml hr0 hr1 h2 hx' (by omega) (by omega)).mono ?_
                rintro e w' ⟨he, ha⟩
                refine ⟨?_, ?_⟩
                · rw [he]
                  simp only []
                  rw [if_pos h2]
                · have h8 := RSt.of_after ha hG
                  unfold addT
                  rw [look_idx, hx]
                  simp only [Option.map_some, Option.map_none]
                  skip
                  exact h8
          | some x =>
            rw [lenF_idx hx]
            by_cases hA : 1048576 < x.b.length + sh
            · rw [if_pos (.inl hA), if_pos (.inl hA)]
              refine (rappend_co1 sh hR ht.keys hlen hu s A b.length c b hs f0 f1 hok hf hr rfl hmc hml hr0 hr1 h2 hx hA).mono ?_
              rintro e w' ⟨he, ha⟩
              exact ⟨he, RSt.of_after ha hG⟩
            · by_cases hB : room < (usedR R : Int) + (sh : Nat)
              · rw [if_pos (.inr hB), if_pos (.inr hB)]
                refine (rappend_co2 sh hR ht.keys hlen hu s A b.length c b hs f0 f1 hok hf hr rfl hmc hml hr0 hr1 h2 hx (by omega) hB).mono ?_
                rintro e w' ⟨he, ha⟩
                exact ⟨he, RSt.of_after ha hG⟩
              · rw [if_neg (fun h : _ ∨ _ => h.elim hA hB), if_neg (fun h : _ ∨ _ => h.elim hA hB)]
                refine (rappend_co3 sh hR ht.keys hlen hu s A b.length c b hs f0 f1 hok hf hr rfl hmc hml hr0 hr1 h2 hx (by omega) (by omega)).mono ?_
                rintro e w' ⟨he, ha⟩
                refine ⟨?_, ?_⟩
                · rw [he]
                  simp only []
                  rw [if_pos h2]
                · have h8 := RSt.of_after ha hG
                  unfold addT
                  rw [look_idx, hx]
                  simp only [Option.map_some, Option.map_none]
                  rw [addF_setF (by rw [look_idx, hx]; rfl)]
                  skip
                  exact h8
        · have ha : appLen (sh : Int) b.length = b.length := by
            unfold appLen
            rw [if_neg (by omega)]
          simp only [ha]
          cases hx : R[idxD R s.data.toList]? with
          | none =>
            have hx' : ¬ idxD R s.data.toList < R.length := fun h => by rw [List.getElem?_eq_getElem h] at hx; cases hx
            rw [lenF_idx_none hx]
            by_cases hA : 1048576 < 0 + b.length
            · rw [if_pos (.inl hA), if_pos (.inl hA)]
              refine (rappend_ln1 sh hR ht.keys hlen hu s A b.length c b hs f0 f1 hok hf hr rfl hmc hml hr0 hr1 (by omega) (by omega) hx' hA).mono ?_
              rintro e w' ⟨he, ha⟩
              exact ⟨he, RSt.of_after ha hG⟩
            · by_cases hB : room < (usedR R : Int) + (b.length : Nat)
              · rw [if_pos (.inr hB), if_pos (.inr hB)]
                refine (rappend_ln2 sh hR ht.keys hlen hu s A b.length c b hs f0 f1 hok hf hr rfl hmc hml hr0 hr1 (by omega) (by omega) hx' (by omega) hB).mono ?_
                rintro e w' ⟨he, ha⟩
                exact ⟨he, RSt.of_after ha hG⟩
              · rw [if_neg (fun h : _ ∨ _ => h.elim hA hB), if_neg (fun h : _ ∨ _ => h.elim hA hB)]
                refine (rappend_ln3 sh hR ht.keys hlen hu s A b.length c b hs f0 f1 hok hf hr rfl hmc hml hr0 hr1 (by omega) (by omega) hx' (by omega) (by omega)).mono ?_
                rintro e w' ⟨he, ha⟩
                refine ⟨?_, ?_⟩
                · rw [he]
                  simp only []
                  rw [if_neg (Nat.lt_irrefl _)]
                · have h8 := RSt.of_after ha hG
                  unfold addT
                  rw [look_idx, hx]
                  simp only [Option.map_some, Option.map_none]
                  rw [hta]
                  exact h8
          | some x =>
            rw [lenF_idx hx]
            by_cases hA : 1048576 < x.b.length + b.length
            · rw [if_pos (.inl hA), if_pos (.inl hA)]
              refine (rappend_lo1 sh hR ht.keys hlen hu s A b.length c b hs f0 f1 hok hf hr rfl hmc hml hr0 hr1 (by omega) (by omega) hx hA).mono ?_
              rintro e w' ⟨he, ha⟩
              exact ⟨he, RSt.of_after ha hG⟩
            · by_cases hB : room < (usedR R : Int) + (b.length : Nat)
              · rw [if_pos (.inr hB), if_pos (.inr hB)]
                refine (rappend_lo2 sh hR ht.keys hlen hu s A b.length c b hs f0 f1 hok hf hr rfl hmc hml hr0 hr1 (by omega) (by omega) hx (by omega) hB).mono ?_
                rintro e w' ⟨he, ha⟩
                exact ⟨he, RSt.of_after ha hG⟩
              · rw [if_neg (fun h : _ ∨ _ => h.elim hA hB), if_neg (fun h : _ ∨ _ => h.elim hA hB)]
                refine (rappend_lo3 sh hR ht.keys hlen hu s A b.length c b hs f0 f1 hok hf hr rfl hmc hml hr0 hr1 (by omega) (by omega) hx (by omega) (by omega)).mono ?_
                rintro e w' ⟨he, ha⟩
                refine ⟨?_, ?_⟩
                · rw [he]
                  simp only []
                  rw [if_neg (Nat.lt_irrefl _)]
                · have h8 := RSt.of_after ha hG
                  unfold addT
                  rw [look_idx, hx]
                  simp only [Option.map_some, Option.map_none]
                  rw [addF_setF (by rw [look_idx, hx]; rfl)]
                  rw [hta]
                  exact h8
theorem rd_sync (h : NRd w gx G T room short fuse) (ht : TOk T) (f0 : -1 ≤ fuse) (f1 : fuse ≤ 9223372036854775807) (s : ByteArray) :
    Calls Tryz.prog 25 #[.pointer (some ⟨gx, 0, none⟩), .string s] w fun e w' => e = .returned (.int .i64 (rSyncE T s.data.toList fuse)) ∧ RSt w w' gx G (syncT T s.data.toList fuse) room short (chFuse true fuse) := by
  obtain ⟨v, R, hR, rfl, hG⟩ := h
  have hlen : R.length < 900000 := by have := ht.len; rwa [List.length_map] at this
  exact (rsync_calls hR ht.keys s hlen f0 f1).mono fun e w' ⟨he, ha⟩ => ⟨he, RSt.of_after ha hG⟩
theorem rd_remove (h : NRd w gx G T room short fuse) (ht : TOk T) (f0 : -1 ≤ fuse) (f1 : fuse ≤ 9223372036854775807) (s : ByteArray) :
    Calls Tryz.prog 31 #[.pointer (some ⟨gx, 0, none⟩), .string s] w fun e w' => e = .returned (.int .i64 (rDelE T s.data.toList fuse)) ∧ RSt w w' gx G (delT T s.data.toList fuse) room short (chFuse true fuse) := by
  obtain ⟨v, R, hR, rfl, hG⟩ := h
  have hlen : R.length < 900000 := by have := ht.len; rwa [List.length_map] at this
  exact (rremove_calls hR s hlen f0 f1).mono fun e w' ⟨he, ha⟩ => ⟨he, RSt.of_after ha hG⟩
theorem rd_rename (h : NRd w gx G T room short fuse) (ht : TOk T) (f0 : -1 ≤ fuse) (f1 : fuse ≤ 9223372036854775807) (s t : ByteArray) (hts : t.size ≤ reach) :
    Calls Tryz.prog 29 #[.pointer (some ⟨gx, 0, none⟩), .string s, .string t] w fun e w' => e = .returned (.int .i64 (rRenE T s.data.toList t.data.toList fuse)) ∧ RSt w w' gx G (renT T s.data.toList t.data.toList fuse) room short (chFuse (nameOk t.data.toList) fuse) := by
  obtain ⟨v, R, hR, rfl, hG⟩ := h
  have hlen : R.length < 900000 := by have := ht.len; rwa [List.length_map] at this
  exact (rrename_calls hR s t hlen hts f0 f1).mono fun e w' ⟨he, ha⟩ => ⟨he, RSt.of_after ha hG⟩
theorem look_lens {T : List Fl} (ht : ∀ x ∈ T, x.2.2 ≤ x.2.1.length ∧ x.2.1.length ≤ 1048576) {s b : List UInt8} {sy : Nat} (h : look T s = some (b, sy)) : sy ≤ b.length ∧ b.length ≤ 1048576 := by
  unfold look at h
  cases hx : T.find? fun x => x.1 == s with
  | none => rw [hx] at h; cases h
  | some x =>
    rw [hx] at h
    have h : x.2 = (b, sy) := by injection h
    have := ht x (List.mem_of_find?_eq_some hx)
    rw [h] at this
    exact this
theorem rd_cut (h : NRd w gx G T room short fuse) (ht : TOk T) (f0 : -1 ≤ fuse) (f1 : fuse ≤ 9223372036854775807) (s : ByteArray) (k : Int) :
    Calls Tryz.prog 27 #[.pointer (some ⟨gx, 0, none⟩), .string s, .int .i64 k] w fun e w' => e = .returned (.int .i64 (rCutE T s.data.toList k fuse)) ∧ RSt w w' gx G (cutT T s.data.toList k fuse) room short (chFuse (cutOkF T s.data.toList k) fuse) := by
  obtain ⟨v, R, hR, rfl, hG⟩ := h
  have hlen : R.length < 900000 := by have := ht.len; rwa [List.length_map] at this
  cases hk : look (R.map RF.fl) s.data.toList with
  | none => exact (rcut_none hR s k hlen f0 f1 hk).mono fun e w' ⟨he, ha⟩ => ⟨he, RSt.of_after ha hG⟩
  | some p =>
    obtain ⟨b, sy⟩ := p
    have hl := look_lens ht.lens hk
    exact (rcut_some hR ht.keys s k hlen f0 f1 hk (by omega) (by omega)).mono fun e w' ⟨he, ha⟩ => ⟨he, RSt.of_after ha hG⟩
theorem rd_short (h : NRd w gx G T room short fuse) (x : Int) :
    Calls Tryz.prog 33 #[.pointer (some ⟨gx, 0, none⟩), .int .i64 x] w fun e w' => e = .returned (.int .i64 (if x < 0 then 1 else 0)) ∧ RSt w w' gx G T room (if x < 0 then short else x) fuse := by
  obtain ⟨v, R, hR, rfl, hG⟩ := h
  exact (rshort_calls hR x).mono fun e w' ⟨he, h1, h2⟩ => ⟨he, RSt.of_after (AfterD.num h1 h2) hG⟩
theorem rd_fuse (h : NRd w gx G T room short fuse) (x : Int) :
    Calls Tryz.prog 36 #[.pointer (some ⟨gx, 0, none⟩), .int .i64 x] w fun e w' => e = .returned (.int .i64 (if x < 0 then 1 else 0)) ∧ RSt w w' gx G T room short (if x < 0 then fuse else x) := by
  obtain ⟨v, R, hR, rfl, hG⟩ := h
  exact (rfuse_calls hR x).mono fun e w' ⟨he, h1, h2⟩ => ⟨he, RSt.of_after (AfterD.num h1 h2) hG⟩
theorem rd_room (h : NRd w gx G T room short fuse) (x : Int) :
    Calls Tryz.prog 35 #[.pointer (some ⟨gx, 0, none⟩), .int .i64 x] w fun e w' => e = .returned (.int .i64 (if x < 0 ∨ 1099511627776 < x then 1 else 0)) ∧ RSt w w' gx G T (if x < 0 ∨ 1099511627776 < x then room else x) short fuse := by
  obtain ⟨v, R, hR, rfl, hG⟩ := h
  exact (rroom_calls hR x).mono fun e w' ⟨he, h1, h2⟩ => ⟨he, RSt.of_after (AfterD.num h1 h2) hG⟩
theorem rd_crash (h : NRd w gx G T room short fuse) (ht : TOk T) (A : Option Addr) (cap : Nat) (tl : List Tl) (htl : tl.length < 9000000000000) (hT : RdT w A tl) (hA : ∀ ad, A = some ad → tl ≠ [] → ad.block < w.heap.size ∧ ad.block ∉ G) :
    Calls Tryz.prog 37 #[.pointer (some ⟨gx, 0, none⟩), .slice A tl.length cap] w fun e w' => e = .returned (.tuple #[]) ∧ RSt w w' gx G (crashF (fun s => (tailOf tl s).getD zeroT) T) room (-1) (-1) := by
  obtain ⟨v, R, hR, rfl, hG⟩ := h
  have hlen : R.length < 900000 := by have := ht.len; rwa [List.length_map] at this
  exact (rcrash_calls hR hlen (fun c hc => ht.lens c.fl (List.mem_map.2 ⟨c, hc, rfl⟩)) A cap tl htl hT (fun ad h1 h2 => ⟨(hA ad h1 h2).1, fun h => (hA ad h1 h2).2 (hG _ h)⟩)).mono fun e w' ⟨he, ha⟩ => ⟨he, RSt.of_after ha hG⟩
theorem rd_used (h : NRd w gx G T room short fuse) (ht : TOk T) :
    Calls Tryz.prog 70 #[.pointer (some ⟨gx, 0, none⟩)] w fun e w' => e = .returned (.int .i64 (used T : Int)) ∧ Below w.heap.size w w' := by
  obtain ⟨v, R, hR, rfl, hG⟩ := h
  have hlen : R.length < 900000 := by have := ht.len; rwa [List.length_map] at this
  have hu := usedR_fl R
  have hs := ht.sum
  rw [hu] at hs ⊢
  exact rused_calls hR (by omega) hs
theorem rd_list (h : NRd w gx G T room short fuse) (ht : TOk T) :
    Calls Tryz.prog 74 #[.pointer (some ⟨gx, 0, none⟩)] w fun e w' => ∃ u, e = .returned u ∧ Own w' 9 1 u (T.map (·.1)).length ((T.map (·.1)).map Proofs.encStr) ∧ Below w.heap.size w w' ∧ ∀ g, u.ownBlock = some g → w.heap.size ≤ g := by
  obtain ⟨v, R, hR, rfl, hG⟩ := h
  have hlen : R.length < 900000 := by have := ht.len; rwa [List.length_map] at this
  refine (rlist_calls hR (by omega)).mono ?_
  rintro e w' ⟨u, he, ho, hb, hn⟩
  have e1 : ((R.map RF.fl).map (·.1)).map Proofs.encStr = (R.map (·.k)).map Value.string := by
    rw [List.map_map, List.map_map, List.map_map]
    refine List.map_congr_left fun c _ => ?_
    show Proofs.encStr c.k.data.toList = .string c.k
    unfold Proofs.encStr
    rfl
  exact ⟨u, he, ho.cast (by simp) e1.symm, hb, hn⟩
theorem rd_synced (h : NRd w gx G T room short fuse) (ht : TOk T) (s : ByteArray) :
    Calls Tryz.prog 81 #[.pointer (some ⟨gx, 0, none⟩), .string s] w fun e w' => e = .returned (.int .i64 ((((look T s.data.toList).map (·.2)).getD 0 : Nat) : Int)) ∧ Below w.heap.size w w' := by
  obtain ⟨v, R, hR, rfl, hG⟩ := h
  have hlen : R.length < 900000 := by have := ht.len; rwa [List.length_map] at this
  exact rsynced_calls hR s (by omega)
theorem rd_read (h : NRd w gx G T room short fuse) (ht : TOk T) (s : ByteArray) :
    Calls Tryz.prog 76 #[.pointer (some ⟨gx, 0, none⟩), .string s] w fun e w' => ∃ A c, e = .returned (.tuple #[.slice A (((look T s.data.toList).map (·.1)).getD []).length c, .int .i64 (if (look T s.data.toList).isSome then 0 else 60)]) ∧ Own w' 5 1 (.slice A (((look T s.data.toList).map (·.1)).getD []).length c) (((look T s.data.toList).map (·.1)).getD []).length (bys (((look T s.data.toList).map (·.1)).getD [])) ∧ Below w.heap.size w w' ∧ ∀ g, (Value.slice A (((look T s.data.toList).map (·.1)).getD []).length c).ownBlock = some g → w.heap.size ≤ g := by
  obtain ⟨v, R, hR, rfl, hG⟩ := h
  have hlen : R.length < 900000 := by have := ht.len; rwa [List.length_map] at this
  cases hx : look (R.map RF.fl) s.data.toList with
  | none =>
    refine (rread_none hR s hlen hx).mono ?_
    rintro e w' ⟨rfl, hb⟩
    exact ⟨none, 0, rfl, Own.nil _ _ _, hb, fun g hg => by cases hg⟩
  | some p =>
    obtain ⟨b, sy⟩ := p
    have hl := look_lens ht.lens hx
    refine (rread_calls hR s hlen hx (by omega)).mono ?_
    rintro e w' ⟨v, rfl, ho, hb, hv⟩
    obtain ⟨A, c, rfl, _⟩ := ho.rdB
    exact ⟨A, c, rfl, ho, hb, hv⟩
end
end Go.Proofs.YtmlfeljhojmbbaaGreatDoor
