/- Opening a law's argument that is a row of slices of bytes, for the log's laws. Opening a law's argument that is a slice of numbers, for the log's laws. Walk: the law SeglogStops answers true (printed by wip/genreplaced.py). -/
import Derived.Test.YtmlfeljhojmbbaaGreatDoorLgE
import Derived.Deep.Slices
import Derived.Test.YtmlfeljhojmbbaaGreatDoorLgF
namespace Go.Proofs.YtmlfeljhojmbbaaGreatDoor
open Go.ChangeShapes Go.WideShapes Go.ChangeAt Go.RowKit
set_option linter.unusedVariables false
set_option maxRecDepth 100000

theorem bytes_cellR7 {H : Type} {enc : TypeId × Value → H} {P : Program} {W : World} {base : Nat} {spare : Nat → Bool} {held : Bool} {t e : TypeId} {v : Value} {d : DataW H} {ps : List MemPlace} {n : Nat}
    (hu : P.underlying t = some (.slice e)) (he : P.underlying e = some (.int .u8)) (hc : P.cellsOf e = 1) (h : DataW.trod enc P W base spare held n t [v] = some (d, ps)) :
    ∃ (A : Option Addr) (l : List UInt8) (c : Nat), v = .slice A l.length c ∧ RdB W A l ∧ l.length ≤ c ∧ c ≤ maxLen := by
  rcases open_ints hu he hc h with ⟨hcs, _⟩ | ⟨x, l, c, zs, hcs, _, hl, hm, hz, hx, hcell, hwz⟩
  · obtain rfl : v = .slice none 0 0 := by simpa using hcs
    exact ⟨none, [], 0, rfl, fun k hk => by simp at hk, Nat.le_refl _, by simp [maxLen]⟩
  · obtain rfl : v = .slice (some x) l c := by simpa using hcs
    have hl2 : l ≤ zs.length := by
      rw [hz]
      split
      · exact hl
      · exact Nat.le_refl _
    obtain ⟨bs, hbl, hbr⟩ := rdB_ints hl2 hcell hwz
    subst hbl
    exact ⟨some x, bs, c, rfl, hbr, hl, hm⟩
def RdC7 (w : World) (Al : Option Addr) (ls : List (List UInt8)) : Prop :=
  ∀ k r, ls[k]? = some r → ∃ ad A c, Al = some ad ∧ w.cell? (ad.add k) = some (.slice A r.length c) ∧ RdB w A r ∧ r.length ≤ c ∧ c ≤ maxLen
def ArgR7 (w : World) (v : Value) (ls : List (List UInt8)) : Prop :=
  ∃ Al cl, v = .slice Al ls.length cl ∧ RdC7 w Al ls ∧ ls.length ≤ maxLen
theorem open_rows7 {H : Type} {enc : TypeId × Value → H} {W : World} {base base' : Nat} {spare : Nat → Bool} {held : Bool} {r : Reach} {v : Value} {d : DataW H} {ps : List MemPlace} {ts : List TypeId} {ds : List (DataW H)} {j : Nat} {t : TypeId}
    (hsz : (DataW.weightsEach Tryz.prog ts ds).all (· ≤ reachBytes) = true) (ht : ts[j]? = some t) (hd : ds[j]? = some d)
    (hv : Value.okWide Tryz.prog W r base' 39 v) (h : DataW.Trod enc Tryz.prog W base spare held 39 v d ps) (lt : ∀ x ∈ ps, x.block < W.heap.size) : ∃ ls, ArgR7 W v ls := by
  obtain ⟨a, len, cap, rfl⟩ := okWide_slice Tryz.underlying39 hv
  obtain ⟨fuel, hf⟩ := h
  rcases Go.Deep.open_slice1 Tryz.underlying39 (by kernel_rfl) hf with ⟨hcs, _⟩ | ⟨x, l, c, m, n, V, D, Pl, hcs, _, hl, hm, hmm, hx, hV⟩
  · simp [Value.cells] at hcs
    obtain ⟨rfl, rfl, rfl⟩ := hcs
    exact ⟨[], none, 0, rfl, (fun k r hk => by simp at hk), by simp⟩
  · simp [Value.cells] at hcs
    obtain ⟨rfl, rfl, rfl⟩ := hcs
    have hle : len ≤ m := by rw [hmm]; split <;> omega
    obtain ⟨f, hfp⟩ := Go.Deep.choose_lt (α := List UInt8) (n := len) (p := fun i l => ∃ A c, V i = .slice A l.length c ∧ RdB W A l ∧ l.length ≤ c ∧ c ≤ maxLen) (fun i hi => by
      obtain ⟨A, l, c, h1, h2, h3, h4⟩ := bytes_cellR7 Tryz.underlying27 Tryz.underlying5 (by kernel_rfl) (hV i (by omega)).2
      exact ⟨l, A, c, h1, h2, h3, h4⟩)
    have hlen : ((List.range len).map f).length = len := by simp
    refine ⟨(List.range len).map f, some x, cap, by rw [hlen], fun k r hk => ?_, by rw [hlen]; omega⟩
    have hkl : k < len := by have := (List.getElem?_eq_some_iff.1 hk).1; rwa [hlen] at this
    rw [List.getElem?_map, List.getElem?_range hkl] at hk
    have hk' : f k = r := Option.some.inj hk
    obtain ⟨A, c', h1, h2, h3, h4⟩ := hfp k hkl
    rw [hk'] at h1 h2 h3
    exact ⟨x, A, c', rfl, by rw [← h1]; exact (hV k (by omega)).1, h2, h3, h4⟩
end Go.Proofs.YtmlfeljhojmbbaaGreatDoor

namespace Go.Proofs.YtmlfeljhojmbbaaGreatDoor
open Go.ChangeShapes Go.WideShapes Go.ChangeAt Go.RowKit
set_option linter.unusedVariables false
set_option maxRecDepth 100000

def ArgI7 (w : World) (v : Value) (l : List Int) : Prop := ∃ A c, v = .slice A l.length c ∧ Rd w A (l.map (Value.int .i64)) ∧ l.length ≤ 9223372036854775807
theorem open_nums7 {H : Type} {enc : TypeId × Value → H} {W : World} {base base' : Nat} {spare : Nat → Bool} {held : Bool} {r : Reach} {v : Value} {d : DataW H} {ps : List MemPlace} {ts : List TypeId} {ds : List (DataW H)} {j : Nat} {t : TypeId}
    (hsz : (DataW.weightsEach Tryz.prog ts ds).all (· ≤ reachBytes) = true) (ht : ts[j]? = some t) (hd : ds[j]? = some d)
    (hv : Value.okWide Tryz.prog W r base' 40 v) (h : DataW.Trod enc Tryz.prog W base spare held 40 v d ps) (lt : ∀ x ∈ ps, x.block < W.heap.size) : ∃ l, ArgI7 W v l := by
  obtain ⟨a, len, cap, rfl⟩ := okWide_slice Tryz.underlying40 hv
  obtain ⟨fuel, hf⟩ := h
  rcases open_ints Tryz.underlying40 Tryz.underlying3 (by kernel_rfl) hf with ⟨hcs, _⟩ | ⟨x, l, c, zs, hcs, _, hl, hm, hz, hx, hcell, hwz⟩
  · simp [Value.cells] at hcs
    obtain ⟨rfl, rfl, rfl⟩ := hcs
    exact ⟨[], none, 0, rfl, fun hne => absurd rfl hne, Nat.zero_le _⟩
  · simp [Value.cells] at hcs
    obtain ⟨rfl, rfl, rfl⟩ := hcs
    have hl2 : len ≤ zs.length := by
      rw [hz]
      split
      · exact hl
      · exact Nat.le_refl _
    have hlen : (zs.take len).length = len := by rw [List.length_take]; omega
    refine ⟨zs.take len, some x, cap, by rw [hlen], fun _ => ⟨x, rfl, fun k u hu => ?_⟩, by rw [hlen]; unfold maxLen at hm; omega⟩
    rw [List.getElem?_map, List.getElem?_take] at hu
    split at hu
    · rename_i hk
      rw [hcell k (by omega)]
      rw [← hu, List.getD_eq_getElem?_getD, List.getElem?_eq_getElem (by omega)]
      rfl
    · cases hu
end Go.Proofs.YtmlfeljhojmbbaaGreatDoor

namespace Go.Proofs.YtmlfeljhojmbbaaGreatDoor
open Go.RowKit Go.Maps Go.Sort
set_option linter.unusedSimpArgs false
set_option linter.unusedVariables false
set_option maxRecDepth 100000

set_option maxHeartbeats 16000000 in
theorem seglogStops_run (Ab : Option Addr) (cb : Nat) (bs : List (List UInt8)) (Ar : Option Addr) (cr : Nat) (rs : List (List UInt8)) (wh : Bool) (a1 : Int) (Ak : Option Addr) (M ck : Nat) (ks : List Int) (w : World) (hb : RdC7 w Ab bs) (hb9 : bs.length ≤ 9223372036854775807) (hr : RdC7 w Ar rs) (hr9 : rs.length ≤ 9223372036854775807) (hk : Rd w Ak (ks.map (Value.int .i64))) (hM : ks.length = M) (hMb : M ≤ 9223372036854775807) (ht : Tb w w.heap.size) :
    Calls Tryz.prog 4 #[.slice Ab bs.length cb, .slice Ar rs.length cr, .bool wh, .int .i64 a1, .slice Ak M ck] w fun e w' => e = .returned (.bool true) ∧ Below w.heap.size w w' := by
  obtain ⟨i0, hi, hz0, hz1, hz2⟩ := info_parts info_rows
  obtain ⟨N1, hU1, hU1b⟩ := u64_nat7 a1
  obtain ⟨fu, hfu60, hT1⟩ := tmod_nat7 N1 20 (by omega)
  have hT1' : ((N1 : Int).tmod 20) = (fu : Int) := hT1
  obtain ⟨NL, hNL⟩ : ∃ NL, NL = bs.length := ⟨_, rfl⟩
  obtain ⟨NR, hNR⟩ : ∃ NR, NR = rs.length := ⟨_, rfl⟩
  have hNLb : NL ≤ 9223372036854775807 := by rw [hNL]; exact hb9
  have hNRb : NR ≤ 9223372036854775807 := by rw [hNR]; exact hr9
  rw [← hNL, ← hNR]
  have HNL := Shut.mk hNL
  have HNR := Shut.mk hNR
  have HRBS := Shut.mk hb
  have HRRS := Shut.mk hr
  have HT := Shut.mk ht
  have HK := Shut.mk hk
  have HM := Shut.mk hM
  have HMB := Shut.mk hMb
  have HU := Shut.mk (And.intro hU1 (And.intro hU1b hT1'))
  clear hNL hNR hb hr ht hk hM hMb hT1 hb9 hr9 hU1 hU1b hT1'
  go_enter Tryz.func4, Tryz.ntmps4
  go_wp2_with fail
  refine (new_dd w).mono ?_
  rintro e w1 ⟨gd, F1, rfl, hD1, hb1, hF1⟩
  have HOP := Shut.mk (lw_open hD1 hb1 hF1 HT.out)
  clear hD1 hb1 hF1
  go_wp2_with fail
  refine HOP.out.mono ?_
  rintro e w2 ⟨gl, d, rfl, hlw, hfr, hfu⟩
  have HLR0 := Shut.mk (Lr.new hlw)
  have HFR := Shut.mk (And.intro hfr hfu)
  clear hlw hfr hfu
  go_wp2_with fail
  go_loopw [16, 49] (fun u i wr => ∃ k wn p : Nat, k ≤ NL ∧ i = .int .i64 (k : Int) ∧ wn ≤ p ∧ p ≤ k ∧ p ≤ 12 ∧ Shut (∃ d cs m rm j ws, Lr w wr gl gd d cs m rm j false (2 + 3 * p) (48 + 8000 * p) u ws ∧ m ≤ 1 + p ∧ flat cs rm = ws ∧ ws.length = wn ∧ look d.S freshN = none ∧ d.fuse = -1)) (fun _ i _ => NL - (intOf i).toNat)
  case atStart => exact ⟨0, 0, 0, Nat.zero_le _, rfl, Nat.le_refl _, Nat.zero_le _, Nat.zero_le _, ⟨_, [], 1, [], 0, [], HLR0.out, Nat.le_refl _, rfl, rfl, HFR.out.1, HFR.out.2⟩⟩
  case round =>
    obtain ⟨k, wn, p, hk, rfl, hwp, hpk, hp12, HS⟩ := hrel
    obtain ⟨d1, cs, m, rm, j, ws, hlr, hm, hfl, hwl, hfr, hfu⟩ := HS.out
    obtain ⟨Au, cu, rfl⟩ : ∃ Au cu, u16 = .slice Au wn cu := by
      obtain ⟨vs, ho, _⟩ := hlr.push
      obtain ⟨A, c, e, _⟩ := ho.form
      exact ⟨A, c, by rw [e, hwl]⟩
    by_cases hlt : k < NL
    · obtain ⟨rec, hdk⟩ : ∃ rec, bs[k]? = some rec := ⟨_, List.getElem?_eq_getElem (by rw [← HNL.out]; exact hlt)⟩
      obtain ⟨ad, B, cB, hal, q0, hrB, hrc, _⟩ := HRBS.out k rec hdk
      subst hal
      have hbl := hlr.lw.below
      have p0 := (hbl.cell (World.block_lt_of_cell? w _ q0)).trans q0
      obtain ⟨RL, hRL⟩ : ∃ RL, RL = rec.length := ⟨_, rfl⟩
      have HRL := Shut.mk hRL
      rw [← hRL] at p0 hrc
      have HRB := Shut.mk hrB
      have HRBR := Shut.mk (hrB.keep hbl)
      have HRC := Shut.mk hrc
      have hkI : (k : Int) < (NL : Int) := by omega
      obtain ⟨H4, gL4, glt4, gu4, grw4⟩ := hlr.go
      have HGO := Shut.mk (And.intro gL4 (And.intro glt4 (And.intro gu4 grw4)))
      have HLR := Shut.mk hlr
      have HM1 := Shut.mk hm
      have HFL := Shut.mk hfl
      have HWL := Shut.mk hwl
      have HFR1 := Shut.mk hfr
      have HFU1 := Shut.mk hfu
      clear gL4 glt4 gu4 grw4 q0 hrB hlr hm hfl hwl hfr hfu hbl hRL hdk HS hrc
      by_cases hk12 : k < 12
      · have hk12I : (k : Int) < 12 := by omega
        by_cases hok : 1 ≤ RL ∧ RL ≤ 4000
        · obtain ⟨hok1, hok2⟩ := hok
          go_wp2_with fail
          obtain ⟨hL4, hlt4, hu4, hrw4⟩ := HGO.out
          have HAP := Shut.mk (append_calls hL4 hlt4 HLR.out.lw.lgd HFR1.out HLR.out.lw.liv (by have := HM1.out; omega) (by omega) (by omega) B RL cB rec HRBR.out HRL.out.symm hok1 hok2)
          have HL4 := Shut.mk (And.intro hL4 (And.intro hlt4 (And.intro hu4 hrw4)))
          have HBW : Shut (∀ a, B = some a → a.block < w.heap.size) := ⟨fun a ha => by
            obtain ⟨a9, e9, hc9⟩ := HRB.out 0 (by rw [← HRL.out]; omega)
            rw [ha] at e9
            cases e9
            have := World.block_lt_of_cell? w _ hc9
            rwa [block_of_add] at this⟩
          clear hL4 hlt4 hu4 hrw4 p0
          refine HAP.out.mono ?_
          rintro e w5 ⟨E, d2, cs2, m2, rm2, j2, dead2, rfl, hto⟩
          have hlr5 := (Lr.step HLR.out.lw HL4.out.1 HL4.out.2.1 HL4.out.2.2.1 HL4.out.2.2.2 hto.stp hto.lgd hto.liv).mono (N' := 2 + 3 * (p + 1)) (U' := 48 + 8000 * (p + 1)) (by omega) (by omega)
          obtain ⟨vs5, ho5, hpu5⟩ := hlr5.push
          rw [HWL.out] at ho5 hpu5
          have hm5 := hto.num
          have hf5 := hto.f HFU1.out
          have HPU := Shut.mk (fun (o : Obj) (w' : World) (u' : Value) (hap : Appended (w5.alloc o) w' 27 1 (.slice Au wn cu) u' wn 1 vs5 [.slice B RL cB]) => hpu5 o w' u' B cB rec HRB.out HBW.out (by rw [← HRL.out]; exact HRC.out) (by rw [← HRL.out]; exact hap))
          have HO5 := Shut.mk ho5
          rcases hto.res with ⟨rfl, rfl, hfr2, hfl2, hcase⟩ | ⟨_, _, hx, _, _⟩
          · have HX2 := Shut.mk (And.intro hfr2 (And.intro hfl2 (And.intro hm5 hf5)))
            clear hlr5 ho5 hpu5 hm5 hf5 hfr2 hfl2 hcase hto
            go_wp2_with (at_builtin; refine wpList_append _ rfl _ _ _ rfl 27 i0 _ 1 24 Tryz.underlying39 hi hz0 hz1 hz2 rfl (by decide) _ _ _ rfl (HO5.out.alloc _) _ 1 1 _ rfl (by rfl) (rd_new _ _ 27) (by simp [Value.oneCell']) (by simp only [maxLen]; omega) (by omega) ?_; intro v8 w8 hap8)
            have hlr8 := HPU.out _ _ _ hap8
            have HS2 : Shut (∃ d cs m rm j ws, Lr w w8 gl gd d cs m rm j false (2 + 3 * (p + 1)) (48 + 8000 * (p + 1)) v8 ws ∧ m ≤ 1 + (p + 1) ∧ flat cs rm = ws ∧ ws.length = wn + 1 ∧ look d.S freshN = none ∧ d.fuse = -1) := ⟨d2, cs2, m2, rm2, j2, ws ++ [rec], hlr8, by have := HM1.out; have := HX2.out.2.2.1; omega, by rw [HX2.out.2.1, HFL.out], by rw [List.length_append, HWL.out]; rfl, HX2.out.1, HX2.out.2.2.2⟩
            clear hlr8
            go_roundw
            case rel => exact ⟨k + 1, wn + 1, p + 1, by omega, by go_num, by omega, by omega, by omega, HS2⟩
            case measure => first | (simp [intOf]; done) | (simp [intOf]; omega)
          · exact absurd HFU1.out hx
        · have hbad : RL < 1 ∨ 4000 < RL := by omega
          go_wp2_with fail
          obtain ⟨hL4, hlt4, hu4, hrw4⟩ := HGO.out
          have HAP := Shut.mk (append_not hL4 B RL cB hbad)
          clear hL4 hlt4 hu4 hrw4 p0 hok
          refine HAP.out.mono ?_
          rintro e w5 ⟨rfl, rfl⟩
          have HS2 : Shut (∃ d cs m rm j ws, Lr w wr gl gd d cs m rm j false (2 + 3 * p) (48 + 8000 * p) (.slice Au wn cu) ws ∧ m ≤ 1 + p ∧ flat cs rm = ws ∧ ws.length = wn ∧ look d.S freshN = none ∧ d.fuse = -1) := ⟨d1, cs, m, rm, j, ws, HLR.out, HM1.out, HFL.out, HWL.out, HFR1.out, HFU1.out⟩
          go_wp2_with fail
          go_roundw
          case rel => exact ⟨k + 1, wn, p, by omega, by go_num, by omega, by omega, by omega, HS2⟩
          case measure => first | (simp [intOf]; done) | (simp [intOf]; omega)
      · have hk12I : ¬ (k : Int) < 12 := by omega
        have HS2 : Shut (∃ d cs m rm j ws, Lr w wr gl gd d cs m rm j false (2 + 3 * p) (48 + 8000 * p) (.slice Au wn cu) ws ∧ m ≤ 1 + p ∧ flat cs rm = ws ∧ ws.length = wn ∧ look d.S freshN = none ∧ d.fuse = -1) := ⟨d1, cs, m, rm, j, ws, HLR.out, HM1.out, HFL.out, HWL.out, HFR1.out, HFU1.out⟩
        go_wp2_with fail
        go_roundw
        case rel => exact ⟨k + 1, wn, p, by omega, by go_num, by omega, by omega, by omega, HS2⟩
        case measure => first | (simp [intOf]; done) | (simp [intOf]; omega)
    · obtain rfl : k = NL := by omega
      obtain ⟨H, hlt0⟩ := hlr.lt_
      have HLT0 := Shut.mk hlt0
      have HLG := Shut.mk hlr.lw.lgd
      have HLV := Shut.mk (hlr.lw.liv.mono (N' := 100) (U' := 100000) (by omega) (by omega))
      have HM1 : Shut (m ≤ 13) := ⟨by omega⟩
      have HFL := Shut.mk hfl
      have HWL := Shut.mk hwl
      have HFR1 := Shut.mk (And.intro hfr hfu)
      have hwn : wn ≤ 12 := by omega
      clear hlr hm hfl hwl hfr hfu HS hlt0 hwp hpk hp12 hlt
      go_wp2_with fail
      go_loopw [17, 69] (fun v i wr => ∃ k fn : Nat, k ≤ NR ∧ i = .int .i64 (k : Int) ∧ fn ≤ k ∧ fn ≤ 12 ∧ Shut (∃ fs, Lt w wr gl gd H d1 (lsq cs m) false (.slice Au wn cu) ws v fs ∧ fs.length = fn ∧ ∀ r ∈ fs, Okr r)) (fun _ i _ => NR - (intOf i).toNat)
      case atStart => exact ⟨0, 0, Nat.zero_le _, rfl, Nat.le_refl _, Nat.zero_le _, ⟨[], HLT0.out, rfl, fun r hr => by cases hr⟩⟩
      case round =>
        obtain ⟨k, fn, hk, rfl, hfk, hf12, HS⟩ := hrel
        obtain ⟨fs, hlt0, hfn, hfo⟩ := HS.out
        obtain ⟨Av, cv, rfl⟩ : ∃ Av cv, u17 = .slice Av fn cv := by
          obtain ⟨vs, ho, _⟩ := hlt0.push
          obtain ⟨A, c, e, _⟩ := ho.form
          exact ⟨A, c, by rw [e, hfn]⟩
        have HLT := Shut.mk hlt0
        have HFN := Shut.mk hfn
        have HFO := Shut.mk hfo
        have hbl := hlt0.below
        clear hlt0 hfn hfo HS
        by_cases hlt : k < NR
        · obtain ⟨rec, hdk⟩ : ∃ rec, rs[k]? = some rec := ⟨_, List.getElem?_eq_getElem (by rw [← HNR.out]; exact hlt)⟩
          obtain ⟨ad, B, cB, hal, q0, hrB, hrc, _⟩ := HRRS.out k rec hdk
          subst hal
          have p0 := (hbl.cell (World.block_lt_of_cell? w _ q0)).trans q0
          obtain ⟨RL, hRL⟩ : ∃ RL, RL = rec.length := ⟨_, rfl⟩
          have HRL := Shut.mk hRL
          rw [← hRL] at p0 hrc
          have HRB := Shut.mk hrB
          have HRC := Shut.mk hrc
          have hkI : (k : Int) < (NR : Int) := by omega
          clear hbl hRL hdk hrB hrc q0
          by_cases hall : k < 12 ∧ 1 ≤ RL ∧ RL ≤ 4000
          · obtain ⟨hk12, hok1, hok2⟩ := hall
            have hk12I : (k : Int) < 12 := by omega
            have hok1I : (RL : Int) > 0 := by omega
            have hok2I : (RL : Int) ≤ 4000 := by omega
            have HBW : Shut (∀ a, B = some a → a.block < w.heap.size) := ⟨fun a ha => by
              obtain ⟨a9, e9, hc9⟩ := HRB.out 0 (by rw [← HRL.out]; omega)
              rw [ha] at e9
              cases e9
              have := World.block_lt_of_cell? w _ hc9
              rwa [block_of_add] at this⟩
            obtain ⟨vs5, ho5, hpu5⟩ := HLT.out.push
            rw [HFN.out] at ho5 hpu5
            have HPU := Shut.mk (fun (o : Obj) (w' : World) (u' : Value) (hap : Appended (wr.alloc o) w' 27 1 (.slice Av fn cv) u' fn 1 vs5 [.slice B RL cB]) => hpu5 o w' u' B cB rec HRB.out HBW.out (by rw [← HRL.out]; exact HRC.out) (by rw [← HRL.out]; exact hap))
            have HO5 := Shut.mk ho5
            clear ho5 hpu5
            go_wp2_with (at_builtin; refine wpList_append _ rfl _ _ _ rfl 27 i0 _ 1 24 Tryz.underlying39 hi hz0 hz1 hz2 rfl (by decide) _ _ _ rfl (HO5.out.alloc _) _ 1 1 _ rfl (by rfl) (rd_new _ _ 27) (by simp [Value.oneCell']) (by simp only [maxLen]; omega) (by omega) ?_; intro v8 w8 hap8)
            have hlr8 := HPU.out _ _ _ hap8
            have HS2 : Shut (∃ fs, Lt w w8 gl gd H d1 (lsq cs m) false (.slice Au wn cu) ws v8 fs ∧ fs.length = fn + 1 ∧ ∀ r ∈ fs, Okr r) := ⟨fs ++ [rec], hlr8, by rw [List.length_append, HFN.out]; rfl, fun r hr => by
              rcases List.mem_append.1 hr with h | h
              · exact HFO.out r h
              · obtain rfl : r = rec := by simpa using h
                exact ⟨by rw [← HRL.out]; exact hok1, by rw [← HRL.out]; exact hok2⟩⟩
            clear hlr8
            go_roundw
            case rel => exact ⟨k + 1, fn + 1, by omega, by go_num, by omega, by omega, HS2⟩
            case measure => first | (simp [intOf]; done) | (simp [intOf]; omega)
          · have HS2 : Shut (∃ fs, Lt w wr gl gd H d1 (lsq cs m) false (.slice Au wn cu) ws (.slice Av fn cv) fs ∧ fs.length = fn ∧ ∀ r ∈ fs, Okr r) := ⟨fs, HLT.out, HFN.out, HFO.out⟩
            have hall2 : ¬ ((k : Int) < 12) ∨ ¬ ((RL : Int) > 0) ∨ ¬ ((RL : Int) ≤ 4000) := by omega
            clear hall
            by_cases hk12 : (k : Int) < 12
            · by_cases hok1 : (RL : Int) > 0
              · have hok2 : ¬ (RL : Int) ≤ 4000 := by omega
                clear hall2
                go_wp2_with fail
                go_roundw
                case rel => exact ⟨k + 1, fn, by omega, by go_num, by omega, by omega, HS2⟩
                case measure => first | (simp [intOf]; done) | (simp [intOf]; omega)
              · clear hall2
                go_wp2_with fail
                go_roundw
                case rel => exact ⟨k + 1, fn, by omega, by go_num, by omega, by omega, HS2⟩
                case measure => first | (simp [intOf]; done) | (simp [intOf]; omega)
            · clear hall2
              go_wp2_with fail
              go_roundw
              case rel => exact ⟨k + 1, fn, by omega, by go_num, by omega, by omega, HS2⟩
              case measure => first | (simp [intOf]; done) | (simp [intOf]; omega)
        · obtain rfl : k = NR := by omega
          clear hlt hfk hk hbl
          obtain ⟨hU1, hU1b, hT1'⟩ := HU.out
          have HSYN := Shut.mk (sync_log HLT.out.ld HLG.out HLV.out (by have := HM1.out; omega) (by omega) HFR1.out.1)
          go_wp2_with fail
          refine HSYN.out.mono ?_
          rintro e w5 ⟨E, d2, j2, dead2, rfl, hst, hlg, hlv, hff, hcase⟩
          obtain ⟨H5, hlt5⟩ := HLT.out.step hst
          obtain ⟨rfl, rfl, rfl, hfr2⟩ : E = 0 ∧ dead2 = false ∧ j2 = rm.length ∧ look d2.S freshN = none := hcase.resolve_right (fun h => absurd HFR1.out.2 h.2.2.2.1)
          have hsy5 := hlg.syd (fun s b sy hl => (hlt5.ld.lens hl).1) (by have := HM1.out; omega)
          have HSY := Shut.mk (syd_fuse hsy5 (fu : Int))
          have HLG6 := Shut.mk (show Lgd { d2 with fuse := (fu : Int) } cs m rm rm.length from hlg.same fun s _ => rfl)
          have HV6 := Shut.mk (liv_fuse hlv fu (by omega))
          obtain ⟨d6, hd6⟩ : ∃ d6, d6 = ({ d2 with fuse := (fu : Int) } : Ds) := ⟨_, rfl⟩
          have hno2 : look d2.S (seg (m + 1)) = none := by
            cases hlk : look d2.S (seg (m + 1)) with
            | none => rfl
            | some p =>
              exfalso
              rcases hlg.files _ (by rw [hlk]; simp) with h | h | ⟨n, hn, h⟩
              · exact seg_ne_man _ h
              · exact seg_ne_fresh _ h
              · have h2 := hlg.le n hn
                have h3 := seg_inj h
                omega
          have HFR6 : Shut (look d6.S freshN = none ∧ look d6.S (seg (m + 1)) = none) := ⟨by rw [hd6]; exact ⟨hfr2, hno2⟩⟩
          have HFUS := Shut.mk (lt_fuse hlt5 fu)
          clear hst hlg hlv hff hlt5 hsy5 hfr2 hno2
          go_wp2_with fail
          refine HFUS.out.mono ?_
          rintro e w6 ⟨rfl, H6, hlt6⟩
          have HLT6 := Shut.mk hlt6
          clear hlt6
          rw [← hd6] at HLT6 HSY HV6 HLG6
          have HD6 : Shut (d6.fuse = (fu : Int)) := ⟨by rw [hd6]⟩
          clear hd6
          cases wh with
          | true =>
            have HRP := Shut.mk (lt_replace HLT6.out HSY.out HFR6.out.1 HFR6.out.2 HV6.out (by have := HM1.out; omega) HFO.out (by rw [HFN.out]; omega) (by rw [HFN.out]; omega) (by rw [HFN.out]; omega))
            rw [HFN.out] at HRP
            clear hU1 hU1b hT1'
            go_wp2_with fail
            refine HRP.out.mono ?_
            rintro e w7 ⟨E, d7, l7, dead7, H7, cs7, m7, rm7, rfl, hlt7, hv7, hsy7, hm7, _, _, hcase⟩
            have HLT7 := Shut.mk hlt7
            have HB7 := Shut.mk hlt7.below
            have HKEY := Shut.mk hlt7.ld.keys
            have HSY7 := Shut.mk hsy7
            have HV7 := Shut.mk (hv7.mono (N' := 1000) (U' := 1048576) (by omega) (by omega))
            have HM7 : Shut (m7 ≤ 400) := ⟨by have := HM1.out; omega⟩
            clear hlt7 hv7 hsy7 hm7
            rcases hcase with ⟨rfl, rfl, hfl7⟩ | ⟨rfl, rfl, hfl7⟩
            · clear hfl7
              go_wp2_with fail
              go_loopw [12, 22] (fun e i wr => e = .int .i64 0 ∧ i = .int .i64 0 ∧ wr = w7) (fun _ _ _ => 0)
              case atStart => exact ⟨rfl, rfl, rfl⟩
              case round =>
                obtain ⟨rfl, rfl, rfl⟩ := hrel
                go_wp2_with fail
                go_ret
                exact ⟨by rfl, HB7.out⟩
            · have HFL7 : Shut (flat cs7 rm7 = ws ∨ flat cs7 rm7 = fs) := ⟨by rw [← HFL.out]; exact hfl7⟩
              have HCRB := Shut.mk (HSY7.out.crb (P := fun gs => gs = ws ∨ gs = fs) HKEY.out HM7.out HFL7.out)
              clear hfl7
              go_wp2_with fail
              go_loopw [12, 22] (fun e i wr => e = .int .i64 62 ∧ i = .int .i64 0 ∧ wr = w7) (fun _ _ _ => 0)
              case atStart => exact ⟨rfl, rfl, rfl⟩
              case round =>
                obtain ⟨rfl, rfl, rfl⟩ := hrel
                have HLS := Shut.mk (lt_names HLT7.out (by have := HV7.out.n; omega))
                go_wp2_with fail
                refine HLS.out.mono ?_
                rintro e w8 ⟨s8, rfl, ho8, hb8, hn8⟩
                have HFU8 := Shut.mk (lt_fuse20 (HLT7.out.quiet hb8))
                have HO8 := Shut.mk (And.intro ho8 hn8)
                clear ho8 hb8 hn8
                go_wp2_with fail
                refine HFU8.out.mono ?_
                rintro e w9 ⟨rfl, hk9, H9, hlt9⟩
                have HO9 := Shut.mk (hk9.own HO8.out.1 HO8.out.2)
                have hbx : Below w9.heap.size w9 (w9.alloc (.cells #[.int .u8 1] 5)) := (Below.refl _ w9).alloc (Nat.le_refl _) _
                have HLTX := Shut.mk (hlt9.quiet hbx)
                have HOX := Shut.mk (HO9.out.below hbx (fun g hg => HO9.out.block_lt hg))
                have HAPD := Shut.mk (dead_append HLTX.out.ld (some ⟨w9.heap.size, 0, none⟩) 1 1 [1] (fun k hk => by obtain rfl : k = 0 := (by simpa using hk); exact ⟨_, rfl, (Blk.new w9 5 #[.int .u8 1]).cell 0⟩) rfl (by omega) (by omega))
                clear hk9 hlt9 hbx
                go_wp2_with fail
                refine HAPD.out.mono ?_
                rintro e w10 ⟨rfl, hb10⟩
                have HLT10 := Shut.mk (HLTX.out.quiet hb10)
                have HO10 := Shut.mk (HOX.out.below hb10 (fun g hg => HOX.out.block_lt hg))
                clear hb10
                go_wp2_with fail
                refine (dead_sync HLT10.out.ld).mono ?_
                rintro e wx ⟨rfl, rfl⟩
                go_wp2_with fail
                refine (dead_replace HLT10.out.ld).mono ?_
                rintro e wx ⟨rfl, rfl⟩
                go_wp2_with fail
                refine (dead_append_not HLT10.out.ld none 0 0 (by omega)).mono ?_
                rintro e wx ⟨rfl, rfl⟩
                have HLS2 := Shut.mk (lt_names HLT10.out (show d7.n ≤ _ by have := HV7.out.n; omega))
                go_wp2_with fail
                refine HLS2.out.mono ?_
                rintro e w11 ⟨s11, rfl, ho11, hb11, _⟩
                have HEQ := Shut.mk (equal_names s8 s11 (lsD d7) w11 (HO10.out.below hb11 (fun g hg => HO10.out.block_lt hg)) ho11)
                have HLT11 := Shut.mk (HLT10.out.quiet hb11)
                clear ho11 hb11
                go_wp2_with fail
                refine HEQ.out.mono ?_
                rintro e w12 ⟨rfl, hb12⟩
                have HLT12 := Shut.mk (HLT11.out.quiet hb12)
                have HTA := Shut.mk (crb_tails1 HLT12.out (HCRB.out.fuse 1048576) (show d7.n ≤ _ by have := HV7.out.n; omega) Ak M ck ks HK.out HM.out HMB.out)
                clear hb12
                go_wp2_with fail
                refine HTA.out.mono ?_
                rintro e w13 ⟨Bt, ct, tl, rfl, hRt, hlt14, hbt, hb14⟩
                have HCR := Shut.mk (crb_crash (HLT12.out.quiet hb14) (HCRB.out.fuse 1048576) (liv_fuse HV7.out 1048576 (by omega)) Bt ct tl hRt hlt14 hbt)
                clear hRt hlt14 hbt hb14
                go_wp2_with fail
                refine HCR.out.mono ?_
                rintro e w14 ⟨rfl, F9, d9, cs9, m9, B9, hlc9, hc9, hop9, hm9, hP9⟩
                have HOP9 := Shut.mk (crb_open (P := fun gs => gs = ws ∨ gs = fs) hlc9 HT.out hc9 (by omega) hop9 hm9 hP9)
                clear hlc9 hc9 hop9 hm9 hP9
                go_wp2_with fail
                refine HOP9.out.mono ?_
                rintro e w15 ⟨gl2, g10, gs, rfl, hP, hg10, hu10, hv10, hb10⟩
                have HG10 := Shut.mk hg10
                have HU10 := Shut.mk hu10
                have HV10 := Shut.mk hv10
                have HB10 := Shut.mk hb10
                have HP10 := Shut.mk hP
                clear hg10 hu10 hv10 hb10 hP

                have HLE : Shut (gs.length ≤ 1000000000) := ⟨by
                  rcases HP10.out with h | h
                  · rw [h, HWL.out]
                    omega
                  · rw [h, HFN.out]
                    omega⟩
                have HSM := Shut.mk (same_recs HG10.out HU10.out HLE.out (by rw [HWL.out]; omega))
                have HSM2 := Shut.mk (same_recs HG10.out HV10.out HLE.out (by rw [HFN.out]; omega))
                by_cases hgot : gs = ws
                · rw [decide_eq_true hgot] at HSM
                  clear hgot
                  go_wp2_with fail
                  refine HSM.out.mono ?_
                  rintro e w11 ⟨rfl, rfl⟩
                  go_wp2_with fail
                  go_ret
                  exact ⟨by rfl, HB10.out⟩
                · have hgo2 : gs = fs := HP10.out.resolve_left hgot
                  rw [decide_eq_false hgot] at HSM
                  rw [decide_eq_true hgo2] at HSM2
                  clear hgot hgo2
                  go_wp2_with fail
                  refine HSM.out.mono ?_
                  rintro e w11 ⟨rfl, rfl⟩
                  go_wp2_with fail
                  refine HSM2.out.mono ?_
                  rintro e w12 ⟨rfl, rfl⟩
                  go_wp2_with fail
                  go_ret
                  exact ⟨by rfl, HB10.out⟩
          | false =>
            clear hU1 hU1b hT1'
            go_wp2_with fail
            have HS0 : Shut (∃ H d cs m rm j dead q', Lt w w6 gl gd H d (lsq cs m) dead (.slice Au wn cu) ws (.slice Av fn cv) fs ∧ Lgd d cs m rm j ∧ Liv d (100 + 3 * 0) (100000 + 8000 * 0) ∧ m ≤ 13 + 0 ∧ flat cs rm = ws ++ fs.take q' ∧ wn ≤ sureN cs j ∧ ((0 : Int) = 0 → dead = false ∧ q' = 0 ∧ look d.S freshN = none) ∧ ((0 : Int) = 62 → dead = true)) := ⟨H6, d6, cs, m, rm, rm.length, false, 0, HLT6.out, HLG6.out, HV6.out, by have := HM1.out; omega, by rw [HFL.out]; simp, by
              have h1 := flat_length cs rm
              rw [HFL.out, HWL.out] at h1
              unfold sureN
              omega, fun _ => ⟨rfl, rfl, HFR6.out.1⟩, fun h => by cases h⟩
            go_loopw [12, 22] (fun e i wr => ∃ (q : Nat) (E : Int), e = .int .i64 E ∧ i = .int .i64 (q : Int) ∧ q ≤ fn ∧ (E = 0 ∨ E = 62) ∧ Shut (∃ H d cs m rm j dead q', Lt w wr gl gd H d (lsq cs m) dead (.slice Au wn cu) ws (.slice Av fn cv) fs ∧ Lgd d cs m rm j ∧ Liv d (100 + 3 * q) (100000 + 8000 * q) ∧ m ≤ 13 + q ∧ flat cs rm = ws ++ fs.take q' ∧ wn ≤ sureN cs j ∧ (E = 0 → dead = false ∧ q' = q ∧ look d.S freshN = none) ∧ (E = 62 → dead = true))) (fun _ i _ => fn - (intOf i).toNat)
            case atStart => exact ⟨0, 0, rfl, rfl, Nat.zero_le _, .inl rfl, HS0⟩
            case round =>
              clear HS0
              obtain ⟨q, E, rfl, rfl, hq, hE, HS⟩ := hrel
              obtain ⟨H7, d7, cs7, m7, rm7, j7, dead7, q7, hlt7, hlg7, hv7, hm7, hfl7, hsu7, hc0, hc62⟩ := HS.out
              have HLT7 := Shut.mk hlt7
              have HB7 := Shut.mk hlt7.below
              have HLG7 := Shut.mk hlg7
              have HVQ := Shut.mk hv7
              have HV7 := Shut.mk (hv7.mono (N' := 1000) (U' := 1048576) (by omega) (by omega))
              have HMQ := Shut.mk hm7
              have HFL7 := Shut.mk hfl7
              have HSU7 := Shut.mk hsu7
              clear HS hlt7 hlg7 hv7 hm7 hfl7 hsu7
              rcases hE with rfl | rfl
              · obtain ⟨rfl, rfl, hfr7⟩ := hc0 rfl
                have HFR7 := Shut.mk hfr7
                clear hc0 hc62 hfr7
                by_cases hlt : q7 < fn
                · have hqI : (q7 : Int) < (fn : Int) := by omega
                  have hql : q7 < fs.length := by rw [HFN.out]; exact hlt
                  obtain ⟨A3, c3, hcell, ⟨Ab3, hab⟩, hr3, hc3, _⟩ := HLT7.out.rv.at_ hql
                  obtain rfl : Av = some Ab3 := hab _ _ _ rfl
                  have p0 := hcell _ _ _ rfl
                  obtain ⟨rec, hrec⟩ : ∃ r, r = fs[q7] := ⟨_, rfl⟩
                  have hokr : Okr rec := by rw [hrec]; exact HFO.out _ (List.getElem_mem _)
                  have HTK : Shut (fs.take (q7 + 1) = fs.take q7 ++ [rec]) := ⟨by rw [List.take_succ_eq_append_getElem hql, hrec]⟩
                  rw [← hrec] at p0 hr3 hc3
                  obtain ⟨RL, hRL⟩ : ∃ RL, RL = rec.length := ⟨_, rfl⟩
                  rw [← hRL] at p0
                  have HAP := Shut.mk (append_calls HLT7.out.ld HLT7.out.lt HLG7.out HFR7.out HVQ.out (by have := HMQ.out; omega) (by omega) (by omega) A3 RL c3 rec hr3 hRL.symm (by rw [hRL]; exact hokr.1) (by rw [hRL]; exact hokr.2))
                  clear hcell hab hr3 hc3 hrec hokr hRL hql
                  go_wp2_with fail
                  refine HAP.out.mono ?_
                  rintro e w8 ⟨E, d8, cs8, m8, rm8, j8, dead8, rfl, hto⟩
                  obtain ⟨H8, hlt8⟩ := HLT7.out.step hto.stp
                  have hEE : E = 0 ∨ E = 62 := hto.res.imp (fun h => h.1) (fun h => h.1)
                  have HS2 : Shut (∃ H d cs m rm j dead q', Lt w w8 gl gd H d (lsq cs m) dead (.slice Au wn cu) ws (.slice (some Ab3) fn cv) fs ∧ Lgd d cs m rm j ∧ Liv d (100 + 3 * (q7 + 1)) (100000 + 8000 * (q7 + 1)) ∧ m ≤ 13 + (q7 + 1) ∧ flat cs rm = ws ++ fs.take q' ∧ wn ≤ sureN cs j ∧ (E = 0 → dead = false ∧ q' = (q7 + 1) ∧ look d.S freshN = none) ∧ (E = 62 → dead = true)) := ⟨by
                    have hn := hto.num
                    have hm := HMQ.out
                    rcases hto.res with ⟨rfl, rfl, hfr2, hfl2, _⟩ | ⟨rfl, rfl, _, _, hfl2⟩
                    · exact ⟨H8, d8, cs8, m8, rm8, j8, false, q7 + 1, hlt8, hto.lgd, hto.liv.mono (by omega) (by omega), by omega, by rw [hfl2, HFL7.out, HTK.out, List.append_assoc], Nat.le_trans HSU7.out hto.sure, fun _ => ⟨rfl, rfl, hfr2⟩, fun h => by cases h⟩
                    · exact ⟨H8, d8, cs8, m8, rm8, j8, true, q7, hlt8, hto.lgd, hto.liv.mono (by omega) (by omega), by omega, by rw [hfl2, HFL7.out], Nat.le_trans HSU7.out hto.sure, (fun h => by cases h), fun _ => rfl⟩⟩
                  clear hto hlt8
                  go_wp2_with fail
                  go_roundw
                  case rel => exact ⟨q7 + 1, E, rfl, by go_num, by omega, hEE, HS2⟩
                  case measure => first | (simp [intOf]; done) | (simp [intOf]; omega)
                · obtain rfl : q7 = fn := by omega
                  go_wp2_with fail
                  go_ret
                  exact ⟨by rfl, HB7.out⟩
              · obtain rfl := hc62 rfl
                have HCRB := Shut.mk (HLG7.out.crb (P := fun gs => ∃ k, gs = (ws ++ fs).take k ∧ ws.length ≤ k ∧ k ≤ (ws ++ fs).length) HLT7.out.ld.keys (fun s b sy hl => (HLT7.out.ld.lens hl).1) (by have := HMQ.out; omega) (fun i h1 h2 => flat_part HFL7.out (by rw [HWL.out]; exact HSU7.out) i h1 h2))
                clear hc0 hc62
                by_cases hlt : q < fn
                · have hqI : (q : Int) < (fn : Int) := by omega
                  have HLS := Shut.mk (lt_names HLT7.out (by have := HV7.out.n; omega))
                  go_wp2_with fail
                  refine HLS.out.mono ?_
                  rintro e w8 ⟨s8, rfl, ho8, hb8, hn8⟩
                  have HFU8 := Shut.mk (lt_fuse20 (HLT7.out.quiet hb8))
                  have HO8 := Shut.mk (And.intro ho8 hn8)
                  clear ho8 hb8 hn8
                  go_wp2_with fail
                  refine HFU8.out.mono ?_
                  rintro e w9 ⟨rfl, hk9, H9, hlt9⟩
                  have HO9 := Shut.mk (hk9.own HO8.out.1 HO8.out.2)
                  have hbx : Below w9.heap.size w9 (w9.alloc (.cells #[.int .u8 1] 5)) := (Below.refl _ w9).alloc (Nat.le_refl _) _
                  have HLTX := Shut.mk (hlt9.quiet hbx)
                  have HOX := Shut.mk (HO9.out.below hbx (fun g hg => HO9.out.block_lt hg))
                  have HAPD := Shut.mk (dead_append HLTX.out.ld (some ⟨w9.heap.size, 0, none⟩) 1 1 [1] (fun k hk => by obtain rfl : k = 0 := (by simpa using hk); exact ⟨_, rfl, (Blk.new w9 5 #[.int .u8 1]).cell 0⟩) rfl (by omega) (by omega))
                  clear hk9 hlt9 hbx
                  go_wp2_with fail
                  refine HAPD.out.mono ?_
                  rintro e w10 ⟨rfl, hb10⟩
                  have HLT10 := Shut.mk (HLTX.out.quiet hb10)
                  have HO10 := Shut.mk (HOX.out.below hb10 (fun g hg => HOX.out.block_lt hg))
                  clear hb10
                  go_wp2_with fail
                  refine (dead_sync HLT10.out.ld).mono ?_
                  rintro e wx ⟨rfl, rfl⟩
                  go_wp2_with fail
                  refine (dead_replace HLT10.out.ld).mono ?_
                  rintro e wx ⟨rfl, rfl⟩
                  go_wp2_with fail
                  refine (dead_append_not HLT10.out.ld none 0 0 (by omega)).mono ?_
                  rintro e wx ⟨rfl, rfl⟩
                  have HLS2 := Shut.mk (lt_names HLT10.out (show d7.n ≤ _ by have := HV7.out.n; omega))
                  go_wp2_with fail
                  refine HLS2.out.mono ?_
                  rintro e w11 ⟨s11, rfl, ho11, hb11, _⟩
                  have HEQ := Shut.mk (equal_names s8 s11 (lsD d7) w11 (HO10.out.below hb11 (fun g hg => HO10.out.block_lt hg)) ho11)
                  have HLT11 := Shut.mk (HLT10.out.quiet hb11)
                  clear ho11 hb11
                  go_wp2_with fail
                  refine HEQ.out.mono ?_
                  rintro e w12 ⟨rfl, hb12⟩
                  have HLT12 := Shut.mk (HLT11.out.quiet hb12)
                  have HTA := Shut.mk (crb_tails1 HLT12.out (HCRB.out.fuse 1048576) (show d7.n ≤ _ by have := HV7.out.n; omega) Ak M ck ks HK.out HM.out HMB.out)
                  clear hb12
                  go_wp2_with fail
                  refine HTA.out.mono ?_
                  rintro e w13 ⟨Bt, ct, tl, rfl, hRt, hlt14, hbt, hb14⟩
                  have HCR := Shut.mk (crb_crash (HLT12.out.quiet hb14) (HCRB.out.fuse 1048576) (liv_fuse HV7.out 1048576 (by omega)) Bt ct tl hRt hlt14 hbt)
                  clear hRt hlt14 hbt hb14
                  go_wp2_with fail
                  refine HCR.out.mono ?_
                  rintro e w14 ⟨rfl, F9, d9, cs9, m9, B9, hlc9, hc9, hop9, hm9, hP9⟩
                  have HOP9 := Shut.mk (crb_open (P := fun gs => ∃ k, gs = (ws ++ fs).take k ∧ ws.length ≤ k ∧ k ≤ (ws ++ fs).length) hlc9 HT.out hc9 (by omega) hop9 hm9 hP9)
                  clear hlc9 hc9 hop9 hm9 hP9
                  go_wp2_with fail
                  refine HOP9.out.mono ?_
                  rintro e w15 ⟨gl2, g10, gs, rfl, hP, hg10, hu10, hv10, hb10⟩
                  have HG10 := Shut.mk hg10
                  have HU10 := Shut.mk hu10
                  have HV10 := Shut.mk hv10
                  have HB10 := Shut.mk hb10
                  have HP10 := Shut.mk hP
                  clear hg10 hu10 hv10 hb10 hP

                  obtain ⟨k, hgs, hk1, hk2⟩ := HP10.out
                  rw [List.length_append, HWL.out, HFN.out] at hk2
                  rw [HWL.out] at hk1
                  obtain ⟨r, hr⟩ : ∃ r, k = wn + r := ⟨k - wn, by omega⟩
                  obtain ⟨GN, hGN⟩ : ∃ GN, GN = gs.length := ⟨_, rfl⟩
                  have hGN2 : GN = wn + r := by
                    rw [hGN, hgs, List.length_take, List.length_append, HWL.out, HFN.out]
                    omega
                  have hg1 : gs.take wn = ws := by
                    rw [hgs, List.take_take, Nat.min_eq_left (by omega), ← HWL.out, List.take_left]
                  have hg2 : gs.drop wn = fs.take r := by
                    rw [hgs, hr, ← HWL.out, List.drop_take, List.drop_left]
                    congr 1
                    omega
                  obtain ⟨vs1, hgo, hgr, _⟩ := HG10.out
                  obtain ⟨vs2, huo, hur, _⟩ := HU10.out
                  obtain ⟨vs3, hvo, hvr, _⟩ := HV10.out
                  obtain ⟨A16, c16, rfl, hgd, hgc, hgm, _, hgn⟩ := hgo.form
                  obtain ⟨A17, c17, e17, hud, huc, _⟩ := huo.form
                  obtain ⟨A18, c18, e18, hvd, hvc, _⟩ := hvo.form
                  injection e17 with h17 h19 h18
                  subst h17
                  subst h18
                  clear h19
                  injection e18 with h17 h19 h18
                  subst h17
                  subst h18
                  clear h19
                  rw [HFN.out] at hvc
                  rw [← hGN] at hgc hgn
                  have hrI : (wn : Int) ≤ (GN : Int) := by omega
                  have hrI2 : (GN : Int) - (wn : Int) = ((r : Nat) : Int) := by omega
                  have hrI3 : (r : Int) ≤ (fn : Int) := by omega
                  have hGNb : (GN : Int) ≤ 100 := by omega
                  have hrb : (r : Int) ≤ 100 := by omega
                  have hb1 : wn ≤ c16 := by omega
                  have hb2 : r ≤ cv := by omega
                  have hb3 : (wn : Int) ≤ (c16 : Int) := by omega
                  have hb4 : (r : Int) ≤ (cv : Int) := by omega
                  have hb5 : wn ≤ GN := by omega
                  have hrw : IntKind.i64.wrap (r : Int) = (r : Int) := wraps_i63 (r : Int) (by omega) (by omega)
                  rw [← hGN]
                  have hbn : ∀ n, Below w15.heap.size w15 (w15.drewN n) := fun n => below_drewN (Below.refl _ w15) n
                  have hrn : ∀ (n : Nat) {A : Option Addr} {vs : List Value}, Rd w15 A vs → Rd (w15.drewN n) A vs := fun n A vs h => rd_kept h (Kb.of_below (hbn n) []) (fun a ha _ hx => by cases hx)
                  have HSM1 := Shut.mk (fun n => same_calls A16 Au wn wn c16 cu (vs1.take wn) vs2 (gs.take wn) ws _ _ (w15.drewN n) (hrn n (rd_take7 hgd wn)) ((rwV_take hgr wn).keep (hbn n)) (hrn n hud) (hur.keep (hbn n)) (by rw [List.length_take, ← hGN]; omega) HWL.out (by omega) (by omega))
                  simp only [decide_eq_true hg1] at HSM1
                  have hgmax : c16 ≤ 9223372036854775807 := by unfold maxLen at hgm; omega
                  cases A16 with
                  | none =>
                    obtain ⟨h1, h2⟩ := hgn rfl
                    obtain rfl : wn = 0 := by omega
                    obtain rfl : r = 0 := by omega
                    obtain rfl : GN = 0 := h1
                    subst h2
                    have HSM2 := Shut.mk (fun n => same_calls none Av 0 0 0 cv [] (vs3.take 0) [] (fs.take 0) (fun _ => True) _ (w15.drewN n) (fun hne => absurd rfl hne) (RwV.nil _ _) (hrn n (rd_take7 hvd 0)) ((rwV_take hvr 0).keep (hbn n)) rfl rfl (by omega) (by omega))
                    simp only [decide_eq_true (by simp : ([] : List (List UInt8)) = fs.take 0)] at HSM2
                    clear hbn hrn hgo hgr huo hur hvo hvr hgd hud hvd hg1 hg2 hgs hGN hgn hgm hk1 hk2 hr
                    go_wp2_with fail
                    go_quiet ((go_at_call 18; first | exact quiet_more_same (HSM1.out _) | exact quiet_same (HSM1.out _) | exact quiet_more_same (HSM2.out _) | exact quiet_same (HSM2.out _)))
                    go_wp2_with fail
                    go_ret
                    exact ⟨by rfl, below_drewN HB10.out _⟩
                  | some a16 =>
                    have hdr : Rd w15 (if c16 = wn then some a16 else some (a16.add wn)) (vs1.drop wn) := by
                      split
                      · intro hne
                        refine absurd (List.drop_eq_nil_of_le ?_) hne
                        rw [hgr.1, ← hGN]
                        omega
                      · exact rd_drop7 hgd wn
                    have HSM2 := Shut.mk (fun n => same_calls (if c16 = wn then some a16 else some (a16.add wn)) Av (GN - wn) r (c16 - wn) cv (vs1.drop wn) (vs3.take r) (gs.drop wn) (fs.take r) _ _ (w15.drewN n) (hrn n hdr) ((rwV_drop hgr wn).keep (hbn n)) (hrn n (rd_take7 hvd r)) ((rwV_take hvr r).keep (hbn n)) (by rw [List.length_drop, ← hGN]) (by rw [List.length_take, HFN.out]; omega) (by omega) (by omega))
                    simp only [decide_eq_true hg2] at HSM2
                    clear hbn hrn hgo hgr huo hur hvo hvr hgd hud hvd hg1 hg2 hgs hGN hgn hgm hk1 hk2 hr hGN2 hdr
                    go_wp2_with fail
                    go_quiet ((go_at_call 18; first | exact quiet_more_same (HSM1.out _) | exact quiet_same (HSM1.out _) | exact quiet_more_same (HSM2.out _) | exact quiet_same (HSM2.out _)))
                    all_goals
                      go_wp2_with fail
                    all_goals
                      go_ret
                      exact ⟨by rfl, below_drewN HB10.out _⟩
                · have hqI : ¬ (q : Int) < (fn : Int) := by omega
                  have HLS := Shut.mk (lt_names HLT7.out (by have := HV7.out.n; omega))
                  go_wp2_with fail
                  refine HLS.out.mono ?_
                  rintro e w8 ⟨s8, rfl, ho8, hb8, hn8⟩
                  have HFU8 := Shut.mk (lt_fuse20 (HLT7.out.quiet hb8))
                  have HO8 := Shut.mk (And.intro ho8 hn8)
                  clear ho8 hb8 hn8
                  go_wp2_with fail
                  refine HFU8.out.mono ?_
                  rintro e w9 ⟨rfl, hk9, H9, hlt9⟩
                  have HO9 := Shut.mk (hk9.own HO8.out.1 HO8.out.2)
                  have hbx : Below w9.heap.size w9 (w9.alloc (.cells #[.int .u8 1] 5)) := (Below.refl _ w9).alloc (Nat.le_refl _) _
                  have HLTX := Shut.mk (hlt9.quiet hbx)
                  have HOX := Shut.mk (HO9.out.below hbx (fun g hg => HO9.out.block_lt hg))
                  have HAPD := Shut.mk (dead_append HLTX.out.ld (some ⟨w9.heap.size, 0, none⟩) 1 1 [1] (fun k hk => by obtain rfl : k = 0 := (by simpa using hk); exact ⟨_, rfl, (Blk.new w9 5 #[.int .u8 1]).cell 0⟩) rfl (by omega) (by omega))
                  clear hk9 hlt9 hbx
                  go_wp2_with fail
                  refine HAPD.out.mono ?_
                  rintro e w10 ⟨rfl, hb10⟩
                  have HLT10 := Shut.mk (HLTX.out.quiet hb10)
                  have HO10 := Shut.mk (HOX.out.below hb10 (fun g hg => HOX.out.block_lt hg))
                  clear hb10
                  go_wp2_with fail
                  refine (dead_sync HLT10.out.ld).mono ?_
                  rintro e wx ⟨rfl, rfl⟩
                  go_wp2_with fail
                  refine (dead_replace HLT10.out.ld).mono ?_
                  rintro e wx ⟨rfl, rfl⟩
                  go_wp2_with fail
                  refine (dead_append_not HLT10.out.ld none 0 0 (by omega)).mono ?_
                  rintro e wx ⟨rfl, rfl⟩
                  have HLS2 := Shut.mk (lt_names HLT10.out (show d7.n ≤ _ by have := HV7.out.n; omega))
                  go_wp2_with fail
                  refine HLS2.out.mono ?_
                  rintro e w11 ⟨s11, rfl, ho11, hb11, _⟩
                  have HEQ := Shut.mk (equal_names s8 s11 (lsD d7) w11 (HO10.out.below hb11 (fun g hg => HO10.out.block_lt hg)) ho11)
                  have HLT11 := Shut.mk (HLT10.out.quiet hb11)
                  clear ho11 hb11
                  go_wp2_with fail
                  refine HEQ.out.mono ?_
                  rintro e w12 ⟨rfl, hb12⟩
                  have HLT12 := Shut.mk (HLT11.out.quiet hb12)
                  have HTA := Shut.mk (crb_tails1 HLT12.out (HCRB.out.fuse 1048576) (show d7.n ≤ _ by have := HV7.out.n; omega) Ak M ck ks HK.out HM.out HMB.out)
                  clear hb12
                  go_wp2_with fail
                  refine HTA.out.mono ?_
                  rintro e w13 ⟨Bt, ct, tl, rfl, hRt, hlt14, hbt, hb14⟩
                  have HCR := Shut.mk (crb_crash (HLT12.out.quiet hb14) (HCRB.out.fuse 1048576) (liv_fuse HV7.out 1048576 (by omega)) Bt ct tl hRt hlt14 hbt)
                  clear hRt hlt14 hbt hb14
                  go_wp2_with fail
                  refine HCR.out.mono ?_
                  rintro e w14 ⟨rfl, F9, d9, cs9, m9, B9, hlc9, hc9, hop9, hm9, hP9⟩
                  have HOP9 := Shut.mk (crb_open (P := fun gs => ∃ k, gs = (ws ++ fs).take k ∧ ws.length ≤ k ∧ k ≤ (ws ++ fs).length) hlc9 HT.out hc9 (by omega) hop9 hm9 hP9)
                  clear hlc9 hc9 hop9 hm9 hP9
                  go_wp2_with fail
                  refine HOP9.out.mono ?_
                  rintro e w15 ⟨gl2, g10, gs, rfl, hP, hg10, hu10, hv10, hb10⟩
                  have HG10 := Shut.mk hg10
                  have HU10 := Shut.mk hu10
                  have HV10 := Shut.mk hv10
                  have HB10 := Shut.mk hb10
                  have HP10 := Shut.mk hP
                  clear hg10 hu10 hv10 hb10 hP

                  obtain ⟨k, hgs, hk1, hk2⟩ := HP10.out
                  rw [List.length_append, HWL.out, HFN.out] at hk2
                  rw [HWL.out] at hk1
                  obtain ⟨r, hr⟩ : ∃ r, k = wn + r := ⟨k - wn, by omega⟩
                  obtain ⟨GN, hGN⟩ : ∃ GN, GN = gs.length := ⟨_, rfl⟩
                  have hGN2 : GN = wn + r := by
                    rw [hGN, hgs, List.length_take, List.length_append, HWL.out, HFN.out]
                    omega
                  have hg1 : gs.take wn = ws := by
                    rw [hgs, List.take_take, Nat.min_eq_left (by omega), ← HWL.out, List.take_left]
                  have hg2 : gs.drop wn = fs.take r := by
                    rw [hgs, hr, ← HWL.out, List.drop_take, List.drop_left]
                    congr 1
                    omega
                  obtain ⟨vs1, hgo, hgr, _⟩ := HG10.out
                  obtain ⟨vs2, huo, hur, _⟩ := HU10.out
                  obtain ⟨vs3, hvo, hvr, _⟩ := HV10.out
                  obtain ⟨A16, c16, rfl, hgd, hgc, hgm, _, hgn⟩ := hgo.form
                  obtain ⟨A17, c17, e17, hud, huc, _⟩ := huo.form
                  obtain ⟨A18, c18, e18, hvd, hvc, _⟩ := hvo.form
                  injection e17 with h17 h19 h18
                  subst h17
                  subst h18
                  clear h19
                  injection e18 with h17 h19 h18
                  subst h17
                  subst h18
                  clear h19
                  rw [HFN.out] at hvc
                  rw [← hGN] at hgc hgn
                  have hrI : (wn : Int) ≤ (GN : Int) := by omega
                  have hrI2 : (GN : Int) - (wn : Int) = ((r : Nat) : Int) := by omega
                  have hrI3 : (r : Int) ≤ (fn : Int) := by omega
                  have hGNb : (GN : Int) ≤ 100 := by omega
                  have hrb : (r : Int) ≤ 100 := by omega
                  have hb1 : wn ≤ c16 := by omega
                  have hb2 : r ≤ cv := by omega
                  have hb3 : (wn : Int) ≤ (c16 : Int) := by omega
                  have hb4 : (r : Int) ≤ (cv : Int) := by omega
                  have hb5 : wn ≤ GN := by omega
                  have hrw : IntKind.i64.wrap (r : Int) = (r : Int) := wraps_i63 (r : Int) (by omega) (by omega)
                  rw [← hGN]
                  have hbn : ∀ n, Below w15.heap.size w15 (w15.drewN n) := fun n => below_drewN (Below.refl _ w15) n
                  have hrn : ∀ (n : Nat) {A : Option Addr} {vs : List Value}, Rd w15 A vs → Rd (w15.drewN n) A vs := fun n A vs h => rd_kept h (Kb.of_below (hbn n) []) (fun a ha _ hx => by cases hx)
                  have HSM1 := Shut.mk (fun n => same_calls A16 Au wn wn c16 cu (vs1.take wn) vs2 (gs.take wn) ws _ _ (w15.drewN n) (hrn n (rd_take7 hgd wn)) ((rwV_take hgr wn).keep (hbn n)) (hrn n hud) (hur.keep (hbn n)) (by rw [List.length_take, ← hGN]; omega) HWL.out (by omega) (by omega))
                  simp only [decide_eq_true hg1] at HSM1
                  have hgmax : c16 ≤ 9223372036854775807 := by unfold maxLen at hgm; omega
                  cases A16 with
                  | none =>
                    obtain ⟨h1, h2⟩ := hgn rfl
                    obtain rfl : wn = 0 := by omega
                    obtain rfl : r = 0 := by omega
                    obtain rfl : GN = 0 := h1
                    subst h2
                    have HSM2 := Shut.mk (fun n => same_calls none Av 0 0 0 cv [] (vs3.take 0) [] (fs.take 0) (fun _ => True) _ (w15.drewN n) (fun hne => absurd rfl hne) (RwV.nil _ _) (hrn n (rd_take7 hvd 0)) ((rwV_take hvr 0).keep (hbn n)) rfl rfl (by omega) (by omega))
                    simp only [decide_eq_true (by simp : ([] : List (List UInt8)) = fs.take 0)] at HSM2
                    clear hbn hrn hgo hgr huo hur hvo hvr hgd hud hvd hg1 hg2 hgs hGN hgn hgm hk1 hk2 hr
                    go_wp2_with fail
                    go_quiet ((go_at_call 18; first | exact quiet_more_same (HSM1.out _) | exact quiet_same (HSM1.out _) | exact quiet_more_same (HSM2.out _) | exact quiet_same (HSM2.out _)))
                    go_wp2_with fail
                    go_ret
                    exact ⟨by rfl, below_drewN HB10.out _⟩
                  | some a16 =>
                    have hdr : Rd w15 (if c16 = wn then some a16 else some (a16.add wn)) (vs1.drop wn) := by
                      split
                      · intro hne
                        refine absurd (List.drop_eq_nil_of_le ?_) hne
                        rw [hgr.1, ← hGN]
                        omega
                      · exact rd_drop7 hgd wn
                    have HSM2 := Shut.mk (fun n => same_calls (if c16 = wn then some a16 else some (a16.add wn)) Av (GN - wn) r (c16 - wn) cv (vs1.drop wn) (vs3.take r) (gs.drop wn) (fs.take r) _ _ (w15.drewN n) (hrn n hdr) ((rwV_drop hgr wn).keep (hbn n)) (hrn n (rd_take7 hvd r)) ((rwV_take hvr r).keep (hbn n)) (by rw [List.length_drop, ← hGN]) (by rw [List.length_take, HFN.out]; omega) (by omega) (by omega))
                    simp only [decide_eq_true hg2] at HSM2
                    clear hbn hrn hgo hgr huo hur hvo hvr hgd hud hvd hg1 hg2 hgs hGN hgn hgm hk1 hk2 hr hGN2 hdr
                    go_wp2_with fail
                    go_quiet ((go_at_call 18; first | exact quiet_more_same (HSM1.out _) | exact quiet_same (HSM1.out _) | exact quiet_more_same (HSM2.out _) | exact quiet_same (HSM2.out _)))
                    all_goals
                      go_wp2_with fail
                    all_goals
                      go_ret
                      exact ⟨by rfl, below_drewN HB10.out _⟩
theorem seglogStops_walk (v1 : Value) (bs : List (List UInt8)) (v2 : Value) (rs : List (List UInt8)) (wh : Bool) (a1 : Int) (u : Value) (ks : List Int) (w : World) (hx : ArgR7 w v1 bs) (hz : ArgR7 w v2 rs) (h1 : -9223372036854775808 ≤ a1) (h1' : a1 ≤ 9223372036854775807) (hy : ArgI7 w u ks) (ht : Tb w w.heap.size) :
    Calls Tryz.prog 4 #[v1, v2, .bool wh, .int .i64 a1, u] w fun e w' => e = .returned (.bool true) ∧ Below w.heap.size w w' := by
  obtain ⟨Ab, cb, rfl, hb, hb9⟩ := hx
  obtain ⟨Ar, cr, rfl, hr, hr9⟩ := hz
  obtain ⟨Ak, ck, rfl, hk, hm⟩ := hy
  exact seglogStops_run Ab cb bs Ar cr rs wh a1 Ak ks.length ck ks w hb (by unfold maxLen at hb9; omega) hr (by unfold maxLen at hr9; omega) hk rfl hm ht
end Go.Proofs.YtmlfeljhojmbbaaGreatDoor
