/- Opening a law's argument that is a row of slices of bytes, for the log's laws. Opening a law's argument that is a slice of numbers, for the log's laws. Walk: the law SeglogReplaced answers true (printed by wip/genreplaced.py). -/
import Derived.Test.YtmlfeljhojmbbaaDoorLgE
import Derived.Deep.Slices
import Derived.Test.YtmlfeljhojmbbaaDoorLgF
namespace Go.Proofs.YtmlfeljhojmbbaaDoor
open Go.ChangeShapes Go.WideShapes Go.ChangeAt Go.RowKit
set_option linter.unusedVariables false
set_option maxRecDepth 100000

theorem bytes_cellR7 {H : Type} {enc : TypeId × Value → H} {P : Program} {W : World} {base : Nat} {spare : Nat → Bool} {held : Bool} {t e : TypeId} {v : Value} {d : DataW H} {ps : List MemPlace} {n : Nat}
    (hu : P.underlying t = some (.slice e)) (he : P.underlying e = some (.int .u8)) (hc : P.cellsOf e = 1) (h : DataW.trod enc P W base spare held n t [v] = some (d, ps)) :
    ∃ (A : Option Addr) (l : List UInt8) (c : Nat), v = .slice A l.length c ∧ RdB W A l ∧ l.length ≤ c ∧ c ≤ maxLen := by
  rcases open_ints hu he hc h with ⟨hcs, _⟩ | ⟨x, l, c, zs, hcs, _, hl, hm, hz, hx, hcell, hwz⟩
  · obtain rfl : v = .slice none 0 0 := by simpa using hcs
    exact ⟨none, [], 0, rfl, fun k hk => by simp at hk, Nat.le_refl _, by simp [maxLen]⟩
  · obtain rfl : v = .slice (some x) l c := by simpa using hcs
    have hl2 : l ≤ zs.length := by
      rw [hz]
      split
      · exact hl
      · exact Nat.le_refl _
    obtain ⟨bs, hbl, hbr⟩ := rdB_ints hl2 hcell hwz
    subst hbl
    exact ⟨some x, bs, c, rfl, hbr, hl, hm⟩
def RdC7 (w : World) (Al : Option Addr) (ls : List (List UInt8)) : Prop :=
  ∀ k r, ls[k]? = some r → ∃ ad A c, Al = some ad ∧ w.cell? (ad.add k) = some (.slice A r.length c) ∧ RdB w A r ∧ r.length ≤ c ∧ c ≤ maxLen
def ArgR7 (w : World) (v : Value) (ls : List (List UInt8)) : Prop :=
  ∃ Al cl, v = .slice Al ls.length cl ∧ RdC7 w Al ls ∧ ls.length ≤ maxLen
theorem open_rows7 {H : Type} {enc : TypeId × Value → H} {W : World} {base base' : Nat} {spare : Nat → Bool} {held : Bool} {r : Reach} {v : Value} {d : DataW H} {ps : List MemPlace} {ts : List TypeId} {ds : List (DataW H)} {j : Nat} {t : TypeId}
    (hsz : (DataW.weightsEach Tryd.prog ts ds).all (· ≤ reachBytes) = true) (ht : ts[j]? = some t) (hd : ds[j]? = some d)
    (hv : Value.okWide Tryd.prog W r base' 32 v) (h : DataW.Trod enc Tryd.prog W base spare held 32 v d ps) (lt : ∀ x ∈ ps, x.block < W.heap.size) : ∃ ls, ArgR7 W v ls := by
  obtain ⟨a, len, cap, rfl⟩ := okWide_slice Tryd.underlying32 hv
  obtain ⟨fuel, hf⟩ := h
  rcases Go.Deep.open_slice1 Tryd.underlying32 (by kernel_rfl) hf with ⟨hcs, _⟩ | ⟨x, l, c, m, n, V, D, Pl, hcs, _, hl, hm, hmm, hx, hV⟩
  · simp [Value.cells] at hcs
    obtain ⟨rfl, rfl, rfl⟩ := hcs
    exact ⟨[], none, 0, rfl, (fun k r hk => by simp at hk), by simp⟩
  · simp [Value.cells] at hcs
    obtain ⟨rfl, rfl, rfl⟩ := hcs
    have hle : len ≤ m := by rw [hmm]; split <;> omega
    obtain ⟨f, hfp⟩ := Go.Deep.choose_lt (α := List UInt8) (n := len) (p := fun i l => ∃ A c, V i = .slice A l.length c ∧ RdB W A l ∧ l.length ≤ c ∧ c ≤ maxLen) (fun i hi => by
      obtain ⟨A, l, c, h1, h2, h3, h4⟩ := bytes_cellR7 Tryd.underlying22 Tryd.underlying5 (by kernel_rfl) (hV i (by omega)).2
      exact ⟨l, A, c, h1, h2, h3, h4⟩)
    have hlen : ((List.range len).map f).length = len := by simp
    refine ⟨(List.range len).map f, some x, cap, by rw [hlen], fun k r hk => ?_, by rw [hlen]; omega⟩
    have hkl : k < len := by have := (List.getElem?_eq_some_iff.1 hk).1; rwa [hlen] at this
    rw [List.getElem?_map, List.getElem?_range hkl] at hk
    have hk' : f k = r := Option.some.inj hk
    obtain ⟨A, c', h1, h2, h3, h4⟩ := hfp k hkl
    rw [hk'] at h1 h2 h3
    exact ⟨x, A, c', rfl, by rw [← h1]; exact (hV k (by omega)).1, h2, h3, h4⟩
end Go.Proofs.YtmlfeljhojmbbaaDoor

namespace Go.Proofs.YtmlfeljhojmbbaaDoor
open Go.ChangeShapes Go.WideShapes Go.ChangeAt Go.RowKit
set_option linter.unusedVariables false
set_option maxRecDepth 100000

def ArgI7 (w : World) (v : Value) (l : List Int) : Prop := ∃ A c, v = .slice A l.length c ∧ Rd w A (l.map (Value.int .i64)) ∧ l.length ≤ 9223372036854775807
theorem open_nums7 {H : Type} {enc : TypeId × Value → H} {W : World} {base base' : Nat} {spare : Nat → Bool} {held : Bool} {r : Reach} {v : Value} {d : DataW H} {ps : List MemPlace} {ts : List TypeId} {ds : List (DataW H)} {j : Nat} {t : TypeId}
    (hsz : (DataW.weightsEach Tryd.prog ts ds).all (· ≤ reachBytes) = true) (ht : ts[j]? = some t) (hd : ds[j]? = some d)
    (hv : Value.okWide Tryd.prog W r base' 41 v) (h : DataW.Trod enc Tryd.prog W base spare held 41 v d ps) (lt : ∀ x ∈ ps, x.block < W.heap.size) : ∃ l, ArgI7 W v l := by
  obtain ⟨a, len, cap, rfl⟩ := okWide_slice Tryd.underlying41 hv
  obtain ⟨fuel, hf⟩ := h
  rcases open_ints Tryd.underlying41 Tryd.underlying3 (by kernel_rfl) hf with ⟨hcs, _⟩ | ⟨x, l, c, zs, hcs, _, hl, hm, hz, hx, hcell, hwz⟩
  · simp [Value.cells] at hcs
    obtain ⟨rfl, rfl, rfl⟩ := hcs
    exact ⟨[], none, 0, rfl, fun hne => absurd rfl hne, Nat.zero_le _⟩
  · simp [Value.cells] at hcs
    obtain ⟨rfl, rfl, rfl⟩ := hcs
    have hl2 : len ≤ zs.length := by
      rw [hz]
      split
      · exact hl
      · exact Nat.le_refl _
    have hlen : (zs.take len).length = len := by rw [List.length_take]; omega
    refine ⟨zs.take len, some x, cap, by rw [hlen], fun _ => ⟨x, rfl, fun k u hu => ?_⟩, by rw [hlen]; unfold maxLen at hm; omega⟩
    rw [List.getElem?_map, List.getElem?_take] at hu
    split at hu
    · rename_i hk
      rw [hcell k (by omega)]
      rw [← hu, List.getD_eq_getElem?_getD, List.getElem?_eq_getElem (by omega)]
      rfl
    · cases hu
end Go.Proofs.YtmlfeljhojmbbaaDoor

namespace Go.Proofs.YtmlfeljhojmbbaaDoor
open Go.RowKit Go.Maps Go.Sort
set_option linter.unusedSimpArgs false
set_option linter.unusedVariables false
set_option maxRecDepth 100000

set_option maxHeartbeats 16000000 in
theorem seglogReplaced_run (Ab : Option Addr) (cb : Nat) (bs : List (List UInt8)) (Ar : Option Addr) (cr : Nat) (rs : List (List UInt8)) (a1 : Int) (Ak : Option Addr) (M ck : Nat) (ks : List Int) (tn : Nat) (w : World) (hb : RdC7 w Ab bs) (hb9 : bs.length ≤ 9223372036854775807) (hr : RdC7 w Ar rs) (hr9 : rs.length ≤ 9223372036854775807) (hk : Rd w Ak (ks.map (Value.int .i64))) (hM : ks.length = M) (hMb : M ≤ 9223372036854775807) (htn : tn < 18446744073709551616) (ht : Tb w w.heap.size) :
    Calls Tryd.prog 8 #[.slice Ab bs.length cb, .slice Ar rs.length cr, .int .i64 a1, .slice Ak M ck, .int .u64 (tn : Int)] w fun e w' => e = .returned (.bool true) ∧ Below w.heap.size w w' := by
  obtain ⟨i0, hi, hz0, hz1, hz2⟩ := info_parts info_rows
  obtain ⟨N1, hU1, hU1b⟩ := u64_nat7 a1
  obtain ⟨fu, hfu60, hT1⟩ := tmod_nat7 N1 24 (by omega)
  have hT1' : ((N1 : Int).tmod 24) = (fu : Int) := hT1
  obtain ⟨NL, hNL⟩ : ∃ NL, NL = bs.length := ⟨_, rfl⟩
  obtain ⟨NR, hNR⟩ : ∃ NR, NR = rs.length := ⟨_, rfl⟩
  have hNLb : NL ≤ 9223372036854775807 := by rw [hNL]; exact hb9
  have hNRb : NR ≤ 9223372036854775807 := by rw [hNR]; exact hr9
  rw [← hNL, ← hNR]
  have HNL := Shut.mk hNL
  have HNR := Shut.mk hNR
  have HRBS := Shut.mk hb
  have HRRS := Shut.mk hr
  have HT := Shut.mk ht
  have HK := Shut.mk hk
  have HM := Shut.mk hM
  have HMB := Shut.mk hMb
  have HU := Shut.mk (And.intro hU1 (And.intro hU1b hT1'))
  clear hNL hNR hb hr ht hk hM hMb hT1 hb9 hr9 hU1 hU1b hT1'
  go_enter Tryd.func8, Tryd.ntmps8
  go_wp2_with fail
  refine (new_dd w).mono ?_
  rintro e w1 ⟨gd, F1, rfl, hD1, hb1, hF1⟩
  have HOP := Shut.mk (lw_open hD1 hb1 hF1 HT.out)
  clear hD1 hb1 hF1
  go_wp2_with fail
  refine HOP.out.mono ?_
  rintro e w2 ⟨gl, d, rfl, hlw, hfr, hfu⟩
  have HLR0 := Shut.mk (Lr.new hlw)
  have HFR := Shut.mk (And.intro hfr hfu)
  clear hlw hfr hfu
  go_wp2_with fail
  go_loopw [15, 40] (fun u i wr => ∃ k wn p : Nat, k ≤ NL ∧ i = .int .i64 (k : Int) ∧ wn ≤ p ∧ p ≤ k ∧ p ≤ 12 ∧ Shut (∃ d cs m rm j ws, Lr w wr gl gd d cs m rm j false (2 + 3 * p) (48 + 8000 * p) u ws ∧ m ≤ 1 + p ∧ flat cs rm = ws ∧ ws.length = wn ∧ look d.S freshN = none ∧ d.fuse = -1)) (fun _ i _ => NL - (intOf i).toNat)
  case atStart => exact ⟨0, 0, 0, Nat.zero_le _, rfl, Nat.le_refl _, Nat.zero_le _, Nat.zero_le _, ⟨_, [], 1, [], 0, [], HLR0.out, Nat.le_refl _, rfl, rfl, HFR.out.1, HFR.out.2⟩⟩
  case round =>
    obtain ⟨k, wn, p, hk, rfl, hwp, hpk, hp12, HS⟩ := hrel
    obtain ⟨d1, cs, m, rm, j, ws, hlr, hm, hfl, hwl, hfr, hfu⟩ := HS.out
    obtain ⟨Au, cu, rfl⟩ : ∃ Au cu, u15 = .slice Au wn cu := by
      obtain ⟨vs, ho, _⟩ := hlr.push
      obtain ⟨A, c, e, _⟩ := ho.form
      exact ⟨A, c, by rw [e, hwl]⟩
    by_cases hlt : k < NL
    · obtain ⟨rec, hdk⟩ : ∃ rec, bs[k]? = some rec := ⟨_, List.getElem?_eq_getElem (by rw [← HNL.out]; exact hlt)⟩
      obtain ⟨ad, B, cB, hal, q0, hrB, hrc, _⟩ := HRBS.out k rec hdk
      subst hal
      have hbl := hlr.lw.below
      have p0 := (hbl.cell (World.block_lt_of_cell? w _ q0)).trans q0
      obtain ⟨RL, hRL⟩ : ∃ RL, RL = rec.length := ⟨_, rfl⟩
      have HRL := Shut.mk hRL
      rw [← hRL] at p0 hrc
      have HRB := Shut.mk hrB
      have HRBR := Shut.mk (hrB.keep hbl)
      have HRC := Shut.mk hrc
      have hkI : (k : Int) < (NL : Int) := by omega
      obtain ⟨H4, gL4, glt4, gu4, grw4⟩ := hlr.go
      have HGO := Shut.mk (And.intro gL4 (And.intro glt4 (And.intro gu4 grw4)))
      have HLR := Shut.mk hlr
      have HM1 := Shut.mk hm
      have HFL := Shut.mk hfl
      have HWL := Shut.mk hwl
      have HFR1 := Shut.mk hfr
      have HFU1 := Shut.mk hfu
      clear gL4 glt4 gu4 grw4 q0 hrB hlr hm hfl hwl hfr hfu hbl hRL hdk HS hrc
      by_cases hk12 : k < 12
      · have hk12I : (k : Int) < 12 := by omega
        by_cases hok : 1 ≤ RL ∧ RL ≤ 4000
        · obtain ⟨hok1, hok2⟩ := hok
          go_wp2_with fail
          obtain ⟨hL4, hlt4, hu4, hrw4⟩ := HGO.out
          have HAP := Shut.mk (append_calls hL4 hlt4 HLR.out.lw.lgd HFR1.out HLR.out.lw.liv (by have := HM1.out; omega) (by omega) (by omega) B RL cB rec HRBR.out HRL.out.symm hok1 hok2)
          have HL4 := Shut.mk (And.intro hL4 (And.intro hlt4 (And.intro hu4 hrw4)))
          have HBW : Shut (∀ a, B = some a → a.block < w.heap.size) := ⟨fun a ha => by
            obtain ⟨a9, e9, hc9⟩ := HRB.out 0 (by rw [← HRL.out]; omega)
            rw [ha] at e9
            cases e9
            have := World.block_lt_of_cell? w _ hc9
            rwa [block_of_add] at this⟩
          clear hL4 hlt4 hu4 hrw4 p0
          refine HAP.out.mono ?_
          rintro e w5 ⟨E, d2, cs2, m2, rm2, j2, dead2, rfl, hto⟩
          have hlr5 := (Lr.step HLR.out.lw HL4.out.1 HL4.out.2.1 HL4.out.2.2.1 HL4.out.2.2.2 hto.stp hto.lgd hto.liv).mono (N' := 2 + 3 * (p + 1)) (U' := 48 + 8000 * (p + 1)) (by omega) (by omega)
          obtain ⟨vs5, ho5, hpu5⟩ := hlr5.push
          rw [HWL.out] at ho5 hpu5
          have hm5 := hto.num
          have hf5 := hto.f HFU1.out
          have HPU := Shut.mk (fun (o : Obj) (w' : World) (u' : Value) (hap : Appended (w5.alloc o) w' 22 1 (.slice Au wn cu) u' wn 1 vs5 [.slice B RL cB]) => hpu5 o w' u' B cB rec HRB.out HBW.out (by rw [← HRL.out]; exact HRC.out) (by rw [← HRL.out]; exact hap))
          have HO5 := Shut.mk ho5
          rcases hto.res with ⟨rfl, rfl, hfr2, hfl2, hcase⟩ | ⟨_, _, hx, _, _⟩
          · have HX2 := Shut.mk (And.intro hfr2 (And.intro hfl2 (And.intro hm5 hf5)))
            clear hlr5 ho5 hpu5 hm5 hf5 hfr2 hfl2 hcase hto
            go_wp2_with (at_builtin; refine wpList_append _ rfl _ _ _ rfl 22 i0 _ 1 24 Tryd.underlying32 hi hz0 hz1 hz2 rfl (by decide) _ _ _ rfl (HO5.out.alloc _) _ 1 1 _ rfl (by rfl) (rd_new _ _ 22) (by simp [Value.oneCell']) (by simp only [maxLen]; omega) (by omega) ?_; intro v8 w8 hap8)
            have hlr8 := HPU.out _ _ _ hap8
            have HS2 : Shut (∃ d cs m rm j ws, Lr w w8 gl gd d cs m rm j false (2 + 3 * (p + 1)) (48 + 8000 * (p + 1)) v8 ws ∧ m ≤ 1 + (p + 1) ∧ flat cs rm = ws ∧ ws.length = wn + 1 ∧ look d.S freshN = none ∧ d.fuse = -1) := ⟨d2, cs2, m2, rm2, j2, ws ++ [rec], hlr8, by have := HM1.out; have := HX2.out.2.2.1; omega, by rw [HX2.out.2.1, HFL.out], by rw [List.length_append, HWL.out]; rfl, HX2.out.1, HX2.out.2.2.2⟩
            clear hlr8
            go_roundw
            case rel => exact ⟨k + 1, wn + 1, p + 1, by omega, by go_num, by omega, by omega, by omega, HS2⟩
            case measure => first | (simp [intOf]; done) | (simp [intOf]; omega)
          · exact absurd HFU1.out hx
        · have hbad : RL < 1 ∨ 4000 < RL := by omega
          go_wp2_with fail
          obtain ⟨hL4, hlt4, hu4, hrw4⟩ := HGO.out
          have HAP := Shut.mk (append_not hL4 B RL cB hbad)
          clear hL4 hlt4 hu4 hrw4 p0 hok
          refine HAP.out.mono ?_
          rintro e w5 ⟨rfl, rfl⟩
          have HS2 : Shut (∃ d cs m rm j ws, Lr w wr gl gd d cs m rm j false (2 + 3 * p) (48 + 8000 * p) (.slice Au wn cu) ws ∧ m ≤ 1 + p ∧ flat cs rm = ws ∧ ws.length = wn ∧ look d.S freshN = none ∧ d.fuse = -1) := ⟨d1, cs, m, rm, j, ws, HLR.out, HM1.out, HFL.out, HWL.out, HFR1.out, HFU1.out⟩
          go_wp2_with fail
          go_roundw
          case rel => exact ⟨k + 1, wn, p, by omega, by go_num, by omega, by omega, by omega, HS2⟩
          case measure => first | (simp [intOf]; done) | (simp [intOf]; omega)
      · have hk12I : ¬ (k : Int) < 12 := by omega
        have HS2 : Shut (∃ d cs m rm j ws, Lr w wr gl gd d cs m rm j false (2 + 3 * p) (48 + 8000 * p) (.slice Au wn cu) ws ∧ m ≤ 1 + p ∧ flat cs rm = ws ∧ ws.length = wn ∧ look d.S freshN = none ∧ d.fuse = -1) := ⟨d1, cs, m, rm, j, ws, HLR.out, HM1.out, HFL.out, HWL.out, HFR1.out, HFU1.out⟩
        go_wp2_with fail
        go_roundw
        case rel => exact ⟨k + 1, wn, p, by omega, by go_num, by omega, by omega, by omega, HS2⟩
        case measure => first | (simp [intOf]; done) | (simp [intOf]; omega)
    · obtain rfl : k = NL := by omega
      obtain ⟨H, hlt0⟩ := hlr.lt_
      have HLT0 := Shut.mk hlt0
      have HLG := Shut.mk hlr.lw.lgd
      have HLV := Shut.mk (hlr.lw.liv.mono (N' := 100) (U' := 100000) (by omega) (by omega))
      have HM1 : Shut (m ≤ 13) := ⟨by omega⟩
      have HFL := Shut.mk hfl
      have HWL := Shut.mk hwl
      have HFR1 := Shut.mk (And.intro hfr hfu)
      have hwn : wn ≤ 12 := by omega
      clear hlr hm hfl hwl hfr hfu HS hlt0 hwp hpk hp12 hlt
      go_wp2_with fail
      go_loopw [16, 60] (fun v i wr => ∃ k fn : Nat, k ≤ NR ∧ i = .int .i64 (k : Int) ∧ fn ≤ k ∧ fn ≤ 12 ∧ Shut (∃ fs, Lt w wr gl gd H d1 (lsq cs m) false (.slice Au wn cu) ws v fs ∧ fs.length = fn ∧ ∀ r ∈ fs, Okr r)) (fun _ i _ => NR - (intOf i).toNat)
      case atStart => exact ⟨0, 0, Nat.zero_le _, rfl, Nat.le_refl _, Nat.zero_le _, ⟨[], HLT0.out, rfl, fun r hr => by cases hr⟩⟩
      case round =>
        obtain ⟨k, fn, hk, rfl, hfk, hf12, HS⟩ := hrel
        obtain ⟨fs, hlt0, hfn, hfo⟩ := HS.out
        obtain ⟨Av, cv, rfl⟩ : ∃ Av cv, u16 = .slice Av fn cv := by
          obtain ⟨vs, ho, _⟩ := hlt0.push
          obtain ⟨A, c, e, _⟩ := ho.form
          exact ⟨A, c, by rw [e, hfn]⟩
        have HLT := Shut.mk hlt0
        have HFN := Shut.mk hfn
        have HFO := Shut.mk hfo
        have hbl := hlt0.below
        clear hlt0 hfn hfo HS
        by_cases hlt : k < NR
        · obtain ⟨rec, hdk⟩ : ∃ rec, rs[k]? = some rec := ⟨_, List.getElem?_eq_getElem (by rw [← HNR.out]; exact hlt)⟩
          obtain ⟨ad, B, cB, hal, q0, hrB, hrc, _⟩ := HRRS.out k rec hdk
          subst hal
          have p0 := (hbl.cell (World.block_lt_of_cell? w _ q0)).trans q0
          obtain ⟨RL, hRL⟩ : ∃ RL, RL = rec.length := ⟨_, rfl⟩
          have HRL := Shut.mk hRL
          rw [← hRL] at p0 hrc
          have HRB := Shut.mk hrB
          have HRC := Shut.mk hrc
          have hkI : (k : Int) < (NR : Int) := by omega
          clear hbl hRL hdk hrB hrc q0
          by_cases hall : k < 12 ∧ 1 ≤ RL ∧ RL ≤ 4000
          · obtain ⟨hk12, hok1, hok2⟩ := hall
            have hk12I : (k : Int) < 12 := by omega
            have hok1I : (RL : Int) > 0 := by omega
            have hok2I : (RL : Int) ≤ 4000 := by omega
            have HBW : Shut (∀ a, B = some a → a.block < w.heap.size) := ⟨fun a ha => by
              obtain ⟨a9, e9, hc9⟩ := HRB.out 0 (by rw [← HRL.out]; omega)
              rw [ha] at e9
              cases e9
              have := World.block_lt_of_cell? w _ hc9
              rwa [block_of_add] at this⟩
            obtain ⟨vs5, ho5, hpu5⟩ := HLT.out.push
            rw [HFN.out] at ho5 hpu5
            have HPU := Shut.mk (fun (o : Obj) (w' : World) (u' : Value) (hap : Appended (wr.alloc o) w' 22 1 (.slice Av fn cv) u' fn 1 vs5 [.slice B RL cB]) => hpu5 o w' u' B cB rec HRB.out HBW.out (by rw [← HRL.out]; exact HRC.out) (by rw [← HRL.out]; exact hap))
            have HO5 := Shut.mk ho5
            clear ho5 hpu5
            go_wp2_with (at_builtin; refine wpList_append _ rfl _ _ _ rfl 22 i0 _ 1 24 Tryd.underlying32 hi hz0 hz1 hz2 rfl (by decide) _ _ _ rfl (HO5.out.alloc _) _ 1 1 _ rfl (by rfl) (rd_new _ _ 22) (by simp [Value.oneCell']) (by simp only [maxLen]; omega) (by omega) ?_; intro v8 w8 hap8)
            have hlr8 := HPU.out _ _ _ hap8
            have HS2 : Shut (∃ fs, Lt w w8 gl gd H d1 (lsq cs m) false (.slice Au wn cu) ws v8 fs ∧ fs.length = fn + 1 ∧ ∀ r ∈ fs, Okr r) := ⟨fs ++ [rec], hlr8, by rw [List.length_append, HFN.out]; rfl, fun r hr => by
              rcases List.mem_append.1 hr with h | h
              · exact HFO.out r h
              · obtain rfl : r = rec := by simpa using h
                exact ⟨by rw [← HRL.out]; exact hok1, by rw [← HRL.out]; exact hok2⟩⟩
            clear hlr8
            go_roundw
            case rel => exact ⟨k + 1, fn + 1, by omega, by go_num, by omega, by omega, HS2⟩
            case measure => first | (simp [intOf]; done) | (simp [intOf]; omega)
          · have HS2 : Shut (∃ fs, Lt w wr gl gd H d1 (lsq cs m) false (.slice Au wn cu) ws (.slice Av fn cv) fs ∧ fs.length = fn ∧ ∀ r ∈ fs, Okr r) := ⟨fs, HLT.out, HFN.out, HFO.out⟩
            have hall2 : ¬ ((k : Int) < 12) ∨ ¬ ((RL : Int) > 0) ∨ ¬ ((RL : Int) ≤ 4000) := by omega
            clear hall
            by_cases hk12 : (k : Int) < 12
            · by_cases hok1 : (RL : Int) > 0
              · have hok2 : ¬ (RL : Int) ≤ 4000 := by omega
                clear hall2
                go_wp2_with fail
                go_roundw
                case rel => exact ⟨k + 1, fn, by omega, by go_num, by omega, by omega, HS2⟩
                case measure => first | (simp [intOf]; done) | (simp [intOf]; omega)
              · clear hall2
                go_wp2_with fail
                go_roundw
                case rel => exact ⟨k + 1, fn, by omega, by go_num, by omega, by omega, HS2⟩
                case measure => first | (simp [intOf]; done) | (simp [intOf]; omega)
            · clear hall2
              go_wp2_with fail
              go_roundw
              case rel => exact ⟨k + 1, fn, by omega, by go_num, by omega, by omega, HS2⟩
              case measure => first | (simp [intOf]; done) | (simp [intOf]; omega)
        · obtain rfl : k = NR := by omega
          clear hlt hfk hk hbl
          obtain ⟨hU1, hU1b, hT1'⟩ := HU.out
          have HSYN := Shut.mk (sync_log HLT.out.ld HLG.out HLV.out (by have := HM1.out; omega) (by omega) HFR1.out.1)
          go_wp2_with fail
          refine HSYN.out.mono ?_
          rintro e w5 ⟨E, d2, j2, dead2, rfl, hst, hlg, hlv, hff, hcase⟩
          obtain ⟨H5, hlt5⟩ := HLT.out.step hst
          obtain ⟨rfl, rfl, rfl, hfr2⟩ : E = 0 ∧ dead2 = false ∧ j2 = rm.length ∧ look d2.S freshN = none := hcase.resolve_right (fun h => absurd HFR1.out.2 h.2.2.2.1)
          have hsy5 := hlg.syd (fun s b sy hl => (hlt5.ld.lens hl).1) (by have := HM1.out; omega)
          have HSY := Shut.mk (syd_fuse hsy5 (fu : Int))
          have HLG6 := Shut.mk (show Lgd { d2 with fuse := (fu : Int) } cs m rm rm.length from hlg.same fun s _ => rfl)
          have HV6 := Shut.mk (liv_fuse hlv fu (by omega))
          obtain ⟨d6, hd6⟩ : ∃ d6, d6 = ({ d2 with fuse := (fu : Int) } : Ds) := ⟨_, rfl⟩
          have hno2 : look d2.S (seg (m + 1)) = none := by
            cases hlk : look d2.S (seg (m + 1)) with
            | none => rfl
            | some p =>
              exfalso
              rcases hlg.files _ (by rw [hlk]; simp) with h | h | ⟨n, hn, h⟩
              · exact seg_ne_man _ h
              · exact seg_ne_fresh _ h
              · have h2 := hlg.le n hn
                have h3 := seg_inj h
                omega
          have HFR6 : Shut (look d6.S freshN = none ∧ look d6.S (seg (m + 1)) = none) := ⟨by rw [hd6]; exact ⟨hfr2, hno2⟩⟩
          have HFUS := Shut.mk (lt_fuse hlt5 fu)
          clear hst hlg hlv hff hlt5 hsy5 hfr2 hno2
          go_wp2_with fail
          refine HFUS.out.mono ?_
          rintro e w6 ⟨rfl, H6, hlt6⟩
          have HLT6 := Shut.mk hlt6
          clear hlt6
          rw [← hd6] at HLT6 HSY HV6 HLG6
          have HD6 : Shut (d6.fuse = (fu : Int)) := ⟨by rw [hd6]⟩
          clear hd6
          have HRP := Shut.mk (lt_replace HLT6.out HSY.out HFR6.out.1 HFR6.out.2 HV6.out (by have := HM1.out; omega) HFO.out (by rw [HFN.out]; omega) (by rw [HFN.out]; omega) (by rw [HFN.out]; omega))
          rw [HFN.out] at HRP
          clear hU1 hU1b hT1'
          go_wp2_with fail
          refine HRP.out.mono ?_
          rintro e w7 ⟨E, d7, l7, dead7, H7, cs7, m7, rm7, rfl, hlt7, hv7, hsy7, hm7, _, _, hcase⟩
          have HTA := Shut.mk (lt_tails hlt7 hsy7 (by have := hv7.n; omega) Ak M ck ks HK.out HM.out HMB.out tn htn)
          have HLT7 := Shut.mk hlt7
          have HSY7 := Shut.mk hsy7
          have HV7 := Shut.mk (hv7.mono (N' := 1000) (U' := 1048576) (by omega) (by omega))
          have HM7 : Shut (m7 ≤ 400) := ⟨by have := HM1.out; omega⟩
          clear hlt7 hv7 hsy7 hm7
          rcases hcase with ⟨rfl, rfl, hfl7⟩ | ⟨rfl, rfl, hfl7⟩
          · have HFL7 := Shut.mk hfl7
            clear hfl7
            go_wp2_with fail
            refine HTA.out.mono ?_
            rintro e w8 ⟨Bt, ct, tl, rfl, hRt, hlt14, hbt, hb14⟩
            have HCR := Shut.mk (lt_crash (HLT7.out.quiet hb14) HSY7.out HV7.out Bt ct tl hRt hlt14 hbt)
            clear hRt hlt14 hbt hb14
            go_wp2_with fail
            refine HCR.out.mono ?_
            rintro e w9 ⟨rfl, F9, d9, B9, hlc9, hc9, hop9, hrd9⟩
            have HOP9 := Shut.mk (ltc_open hlc9 HT.out hc9 (by omega) hop9 (by have := HM7.out; omega))
            rw [hrd9] at HOP9
            clear hlc9 hc9 hop9 hrd9
            go_wp2_with fail
            refine HOP9.out.mono ?_
            rintro e w10 ⟨gl2, g10, rfl, hg10, hu10, hv10, hb10⟩
            have HG10 := Shut.mk hg10
            have HU10 := Shut.mk hu10
            have HV10 := Shut.mk hv10
            have HB10 := Shut.mk hb10
            clear hg10 hu10 hv10 hb10

            have HSM := Shut.mk (same_recs HG10.out HV10.out (by rw [HFL7.out, HFN.out]; omega) (by rw [HFN.out]; omega))
            rw [HFL7.out, decide_eq_true rfl] at HSM
            go_wp2_with fail
            refine HSM.out.mono ?_
            rintro e w11 ⟨rfl, rfl⟩
            go_wp2_with fail
            go_ret
            exact ⟨by rfl, HB10.out⟩
          · have HFL7 := Shut.mk hfl7
            clear hfl7
            go_wp2_with fail
            refine HTA.out.mono ?_
            rintro e w8 ⟨Bt, ct, tl, rfl, hRt, hlt14, hbt, hb14⟩
            have HCR := Shut.mk (lt_crash (HLT7.out.quiet hb14) HSY7.out HV7.out Bt ct tl hRt hlt14 hbt)
            clear hRt hlt14 hbt hb14
            go_wp2_with fail
            refine HCR.out.mono ?_
            rintro e w9 ⟨rfl, F9, d9, B9, hlc9, hc9, hop9, hrd9⟩
            have HOP9 := Shut.mk (ltc_open hlc9 HT.out hc9 (by omega) hop9 (by have := HM7.out; omega))
            rw [hrd9] at HOP9
            clear hlc9 hc9 hop9 hrd9
            go_wp2_with fail
            refine HOP9.out.mono ?_
            rintro e w10 ⟨gl2, g10, rfl, hg10, hu10, hv10, hb10⟩
            have HG10 := Shut.mk hg10
            have HU10 := Shut.mk hu10
            have HV10 := Shut.mk hv10
            have HB10 := Shut.mk hb10
            clear hg10 hu10 hv10 hb10

            have HLE : Shut ((flat cs7 rm7).length ≤ 1000000000) := ⟨by
              rcases HFL7.out with h | h
              · rw [h, HFL.out, HWL.out]
                omega
              · rw [h, HFN.out]
                omega⟩
            have HSM := Shut.mk (same_recs HG10.out HV10.out HLE.out (by rw [HFN.out]; omega))
            have HSM2 := Shut.mk (same_recs HG10.out HU10.out HLE.out (by rw [HWL.out]; omega))
            by_cases hgot : flat cs7 rm7 = fs
            · rw [decide_eq_true hgot] at HSM
              clear hgot
              go_wp2_with fail
              refine HSM.out.mono ?_
              rintro e w11 ⟨rfl, rfl⟩
              go_wp2_with fail
              go_ret
              exact ⟨by rfl, HB10.out⟩
            · have hgo2 : flat cs7 rm7 = ws := by
                rcases HFL7.out with h | h
                · rw [h, HFL.out]
                · exact absurd h hgot
              rw [decide_eq_false hgot] at HSM
              rw [decide_eq_true hgo2] at HSM2
              clear hgot hgo2
              go_wp2_with fail
              refine HSM.out.mono ?_
              rintro e w11 ⟨rfl, rfl⟩
              go_wp2_with fail
              refine HSM2.out.mono ?_
              rintro e w12 ⟨rfl, rfl⟩
              go_wp2_with fail
              go_ret
              exact ⟨by rfl, HB10.out⟩
theorem seglogReplaced_walk (v1 : Value) (bs : List (List UInt8)) (v2 : Value) (rs : List (List UInt8)) (a1 : Int) (u : Value) (ks : List Int) (t : Int) (w : World) (hx : ArgR7 w v1 bs) (hz : ArgR7 w v2 rs) (h1 : -9223372036854775808 ≤ a1) (h1' : a1 ≤ 9223372036854775807) (hy : ArgI7 w u ks) (t0 : 0 ≤ t) (t1 : t ≤ 18446744073709551615) (ht : Tb w w.heap.size) :
    Calls Tryd.prog 8 #[v1, v2, .int .i64 a1, u, .int .u64 t] w fun e w' => e = .returned (.bool true) ∧ Below w.heap.size w w' := by
  obtain ⟨Ab, cb, rfl, hb, hb9⟩ := hx
  obtain ⟨Ar, cr, rfl, hr, hr9⟩ := hz
  obtain ⟨Ak, ck, rfl, hk, hm⟩ := hy
  obtain ⟨tn, rfl⟩ : ∃ tn : Nat, t = (tn : Int) := ⟨t.toNat, by omega⟩
  exact seglogReplaced_run Ab cb bs Ar cr rs a1 Ak ks.length ck ks tn w hb (by unfold maxLen at hb9; omega) hr (by unfold maxLen at hr9; omega) hk rfl hm (by omega) ht
end Go.Proofs.YtmlfeljhojmbbaaDoor
