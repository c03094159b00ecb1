/- Opening a law's argument that is a list of calls of a log. Opening a law's argument that is a slice of numbers, for the log's laws. Walk: the law SeglogSynced answers true (printed by wip/gensynced.py). -/
import Derived.Test.YtmlfeljhojmbbaaDoorLgE
import Derived.Deep.Slices
import Derived.Test.YtmlfeljhojmbbaaDoorLgF
namespace Go.Proofs.YtmlfeljhojmbbaaDoor
open Go.ChangeShapes Go.WideShapes Go.ChangeAt Go.RowKit Go.Deep
set_option linter.unusedVariables false
set_option maxRecDepth 100000

theorem bytes_cell7 {H : Type} {enc : TypeId × Value → H} {P : Program} {W : World} {base : Nat} {spare : Nat → Bool} {held : Bool} {t e : TypeId} {v : Value} {d : DataW H} {ps : List MemPlace} {n : Nat}
    (hu : P.underlying t = some (.slice e)) (he : P.underlying e = some (.int .u8)) (hc : P.cellsOf e = 1) (h : DataW.trod enc P W base spare held n t [v] = some (d, ps)) :
    ∃ (A : Option Addr) (l : List UInt8) (c : Nat), v = .slice A l.length c ∧ RdB W A l ∧ l.length ≤ c ∧ c ≤ maxLen := by
  rcases open_ints hu he hc h with ⟨hcs, _⟩ | ⟨x, l, c, zs, hcs, _, hl, hm, hz, hx, hcell, hwz⟩
  · obtain rfl : v = .slice none 0 0 := by simpa using hcs
    exact ⟨none, [], 0, rfl, fun k hk => by simp at hk, Nat.le_refl _, by simp [maxLen]⟩
  · obtain rfl : v = .slice (some x) l c := by simpa using hcs
    have hl2 : l ≤ zs.length := by
      rw [hz]
      split
      · exact hl
      · exact Nat.le_refl _
    obtain ⟨bs, hbl, hbr⟩ := rdB_ints hl2 hcell hwz
    subst hbl
    exact ⟨some x, bs, c, rfl, hbr, hl, hm⟩
/-- any slice's shape -/
theorem slice_cell7 {H : Type} {enc : TypeId × Value → H} {P : Program} {W : World} {base : Nat} {spare : Nat → Bool} {held : Bool} {t e : TypeId} {v : Value} {x : DataW H × List MemPlace} {n : Nat}
    (hu : P.underlying t = some (.slice e)) (h : DataW.trod enc P W base spare held n t [v] = some x) : ∃ (A : Option Addr) (n c : Nat), v = .slice A n c := by
  rcases Go.Deep.open_slice hu h with ⟨hcs, _⟩ | ⟨x, l, c, m, n, D, Pl, hcs, _⟩
  · exact ⟨none, 0, 0, by simpa using hcs⟩
  · exact ⟨some x, l, c, by simpa using hcs⟩
theorem list9 {α : Type} {cs : List α} (h : cs.length = 9) : ∃ c0 c1 c2 c3 c4 c5 c6 c7 c8, cs = [c0, c1, c2, c3, c4, c5, c6, c7, c8] := by
  match cs, h with
  | [c0, c1, c2, c3, c4, c5, c6, c7, c8], _ => exact ⟨c0, c1, c2, c3, c4, c5, c6, c7, c8, rfl⟩
/-- a call: what it is, and its record -/
abbrev Do7 := Int × List UInt8
/-- a call's cells -/
structure DoCells (c0 c1 c2 c3 c4 c5 c6 c7 c8 : Value) (W : World) (d : Do7) : Prop where
  go : ∃ (B r2 r7 r8 : Option Addr) (c n2 c2' n7 c7' n8 c8' : Nat) (o n : Int) (s t : ByteArray), c0 = .int .i64 d.1 ∧ c1 = .slice B d.2.length c ∧ RdB W B d.2 ∧ c2 = .slice r2 n2 c2' ∧ c3 = .int .i64 o ∧ c4 = .int .i64 n ∧ c5 = .string s ∧ c6 = .string t ∧ c7 = .slice r7 n7 c7' ∧ c8 = .slice r8 n8 c8' ∧ d.2.length ≤ c
def RdDo7 (W : World) (Al : Option Addr) (ds : List Do7) : Prop :=
  ∀ k d, ds[k]? = some d → ∃ ad c0 c1 c2 c3 c4 c5 c6 c7 c8, Al = some ad ∧ DoCells c0 c1 c2 c3 c4 c5 c6 c7 c8 W d ∧ W.cell? (ad.add (k * 9)) = some c0 ∧
    W.cell? ⟨(ad.add (k * 9)).block, (ad.add (k * 9)).off + 1, none⟩ = some c1 ∧ W.cell? ⟨(ad.add (k * 9)).block, (ad.add (k * 9)).off + 2, none⟩ = some c2 ∧ W.cell? ⟨(ad.add (k * 9)).block, (ad.add (k * 9)).off + 3, none⟩ = some c3 ∧
    W.cell? ⟨(ad.add (k * 9)).block, (ad.add (k * 9)).off + 4, none⟩ = some c4 ∧ W.cell? ⟨(ad.add (k * 9)).block, (ad.add (k * 9)).off + 5, none⟩ = some c5 ∧ W.cell? ⟨(ad.add (k * 9)).block, (ad.add (k * 9)).off + 6, none⟩ = some c6 ∧
    W.cell? ⟨(ad.add (k * 9)).block, (ad.add (k * 9)).off + 7, none⟩ = some c7 ∧ W.cell? ⟨(ad.add (k * 9)).block, (ad.add (k * 9)).off + 8, none⟩ = some c8
theorem trod4 {H : Type} {enc : TypeId × Value → H} {P : Program} {w : World} {base : Nat} {spare : Nat → Bool} {held : Bool} {t : TypeId} {f0 f1 f2 f3 : Field} {fuel : Nat} {c0 c1 c2 c3 c4 c5 c6 c7 c8 : Value} {x : DataW H × List MemPlace} (ht : P.underlying t = some (.struct #[f0, f1, f2, f3]))
    (o0 : f0.offset = 0) (o1 : f1.offset = 1) (o2 : f2.offset = 2) (o3 : f3.offset = 3) (k0 : P.cellsOf f0.type = 1) (k1 : P.cellsOf f1.type = 1) (k2 : P.cellsOf f2.type = 1) (k3 : P.cellsOf f3.type = 6)
    (h : DataW.trod enc P w base spare held fuel t [c0, c1, c2, c3, c4, c5, c6, c7, c8] = some x) :
    ∃ y0 y1 y2 y3 n, DataW.trod enc P w base spare held n f0.type [c0] = some y0 ∧ DataW.trod enc P w base spare held n f1.type [c1] = some y1 ∧ DataW.trod enc P w base spare held n f2.type [c2] = some y2 ∧ DataW.trod enc P w base spare held n f3.type [c3, c4, c5, c6, c7, c8] = some y3 := by
  obtain ⟨xs, n, _, rfl, hl, hlen, hf⟩ := DataW.trod_struct ht h
  have hx : ∃ y0 y1 y2 y3, xs = [y0, y1, y2, y3] := by
    match xs, hlen with
    | [y0, y1, y2, y3], _ => exact ⟨y0, y1, y2, y3, rfl⟩
  obtain ⟨y0, y1, y2, y3, rfl⟩ := hx
  exact ⟨y0, y1, y2, y3, n, by simpa [o0, k0] using hf 0 f0 rfl, by simpa [o1, k1] using hf 1 f1 rfl, by simpa [o2, k2] using hf 2 f2 rfl, by simpa [o3, k3] using hf 3 f3 rfl⟩
theorem trod6 {H : Type} {enc : TypeId × Value → H} {P : Program} {w : World} {base : Nat} {spare : Nat → Bool} {held : Bool} {t : TypeId} {f0 f1 f2 f3 f4 f5 : Field} {fuel : Nat} {c0 c1 c2 c3 c4 c5 : Value} {x : DataW H × List MemPlace} (ht : P.underlying t = some (.struct #[f0, f1, f2, f3, f4, f5]))
    (o0 : f0.offset = 0) (o1 : f1.offset = 1) (o2 : f2.offset = 2) (o3 : f3.offset = 3) (o4 : f4.offset = 4) (o5 : f5.offset = 5) (k0 : P.cellsOf f0.type = 1) (k1 : P.cellsOf f1.type = 1) (k2 : P.cellsOf f2.type = 1) (k3 : P.cellsOf f3.type = 1) (k4 : P.cellsOf f4.type = 1) (k5 : P.cellsOf f5.type = 1)
    (h : DataW.trod enc P w base spare held fuel t [c0, c1, c2, c3, c4, c5] = some x) :
    ∃ y0 y1 y2 y3 y4 y5 n, DataW.trod enc P w base spare held n f0.type [c0] = some y0 ∧ DataW.trod enc P w base spare held n f1.type [c1] = some y1 ∧ DataW.trod enc P w base spare held n f2.type [c2] = some y2 ∧ DataW.trod enc P w base spare held n f3.type [c3] = some y3 ∧ DataW.trod enc P w base spare held n f4.type [c4] = some y4 ∧ DataW.trod enc P w base spare held n f5.type [c5] = some y5 := by
  obtain ⟨xs, n, _, rfl, hl, hlen, hf⟩ := DataW.trod_struct ht h
  have hx : ∃ y0 y1 y2 y3 y4 y5, xs = [y0, y1, y2, y3, y4, y5] := by
    match xs, hlen with
    | [y0, y1, y2, y3, y4, y5], _ => exact ⟨y0, y1, y2, y3, y4, y5, rfl⟩
  obtain ⟨y0, y1, y2, y3, y4, y5, rfl⟩ := hx
  exact ⟨y0, y1, y2, y3, y4, y5, n, by simpa [o0, k0] using hf 0 f0 rfl, by simpa [o1, k1] using hf 1 f1 rfl, by simpa [o2, k2] using hf 2 f2 rfl, by simpa [o3, k3] using hf 3 f3 rfl, by simpa [o4, k4] using hf 4 f4 rfl, by simpa [o5, k5] using hf 5 f5 rfl⟩
theorem do_cells7 {H : Type} {enc : TypeId × Value → H} {W : World} {base : Nat} {spare : Nat → Bool} {held : Bool} {fuel : Nat} {c0 c1 c2 c3 c4 c5 c6 c7 c8 : Value} {x : DataW H × List MemPlace}
    (h : DataW.trod enc Tryd.prog W base spare held fuel 56 [c0, c1, c2, c3, c4, c5, c6, c7, c8] = some x) : ∃ d : Do7, DoCells c0 c1 c2 c3 c4 c5 c6 c7 c8 W d := by
  obtain ⟨y0, y1, y2, y3, n, h0, h1, h2, h3⟩ := trod4 Tryd.underlying56 rfl rfl rfl rfl (by kernel_rfl) (by kernel_rfl) (by kernel_rfl) (by kernel_rfl) h
  obtain ⟨z0, z1, z2, z3, z4, z5, n2, g0, g1, g2, g3, g4, g5⟩ := trod6 Tryd.underlying54 rfl rfl rfl rfl rfl rfl (by kernel_rfl) (by kernel_rfl) (by kernel_rfl) (by kernel_rfl) (by kernel_rfl) (by kernel_rfl) h3
  obtain ⟨op, e0, _, _⟩ := DataW.trod_int Tryd.underlying3 h0
  obtain ⟨B, l, c, e1, hr, hlc, _⟩ := bytes_cell7 Tryd.underlying22 Tryd.underlying5 (by kernel_rfl) (h1.trans (by rfl))
  obtain ⟨r2, n2', c2', e2⟩ := slice_cell7 Tryd.underlying32 h2
  obtain ⟨o, e3, _, _⟩ := DataW.trod_int Tryd.underlying3 g0
  obtain ⟨m, e4, _, _⟩ := DataW.trod_int Tryd.underlying3 g1
  obtain ⟨s, e5, _, _⟩ := DataW.trod_string Tryd.underlying9 g2
  obtain ⟨t, e6, _, _⟩ := DataW.trod_string Tryd.underlying9 g3
  obtain ⟨r7, n7, c7', e7⟩ := slice_cell7 Tryd.underlying22 g4
  obtain ⟨r8, n8, c8', e8⟩ := slice_cell7 Tryd.underlying52 g5
  simp at e0 e3 e4 e5 e6
  exact ⟨(op, l), ⟨B, r2, r7, r8, c, n2', c2', n7, c7', n8, c8', o, m, s, t, e0, e1, hr, e2, e3, e4, e5, e6, e7, e8, hlc⟩⟩
def ArgDo7 (w : World) (v : Value) (ds : List Do7) : Prop := ∃ Al cl, v = .slice Al ds.length cl ∧ RdDo7 w Al ds
theorem open_do7 {H : Type} {enc : TypeId × Value → H} {W : World} {base base' : Nat} {spare : Nat → Bool} {held : Bool} {r : Reach} {v : Value} {d : DataW H} {ps : List MemPlace} {ts : List TypeId} {ds : List (DataW H)} {j : Nat} {t : TypeId}
    (hsz : (DataW.weightsEach Tryd.prog ts ds).all (· ≤ reachBytes) = true) (ht : ts[j]? = some t) (hd : ds[j]? = some d)
    (hv : Value.okWide Tryd.prog W r base' 51 v) (h : DataW.Trod enc Tryd.prog W base spare held 51 v d ps) (lt : ∀ x ∈ ps, x.block < W.heap.size) : ∃ ds, ArgDo7 W v ds := by
  obtain ⟨a, len, cap, rfl⟩ := okWide_slice Tryd.underlying51 hv
  obtain ⟨fuel, hf⟩ := h
  rcases Go.Deep.open_slice Tryd.underlying51 hf with ⟨hcs, _⟩ | ⟨x, l, c, m, n, D, Pl, hcs, _, hl, hm, hmm, hx, hV⟩
  · simp [Value.cells] at hcs
    obtain ⟨rfl, rfl, rfl⟩ := hcs
    exact ⟨[], none, 0, rfl, fun k d hk => by simp at hk⟩
  · simp [Value.cells] at hcs
    obtain ⟨rfl, rfl, rfl⟩ := hcs
    have hle : len ≤ m := by rw [hmm]; split <;> omega
    have hC : (Tryd.prog).cellsOf 56 = 9 := by kernel_rfl
    obtain ⟨f, hfp⟩ := Go.Deep.choose_lt (α := Do7) (n := len) (p := fun i d => ∃ c0 c1 c2 c3 c4 c5 c6 c7 c8, DoCells c0 c1 c2 c3 c4 c5 c6 c7 c8 W d ∧ W.cell? (x.add (i * 9)) = some c0 ∧
        W.cell? ⟨(x.add (i * 9)).block, (x.add (i * 9)).off + 1, none⟩ = some c1 ∧ W.cell? ⟨(x.add (i * 9)).block, (x.add (i * 9)).off + 2, none⟩ = some c2 ∧ W.cell? ⟨(x.add (i * 9)).block, (x.add (i * 9)).off + 3, none⟩ = some c3 ∧
        W.cell? ⟨(x.add (i * 9)).block, (x.add (i * 9)).off + 4, none⟩ = some c4 ∧ W.cell? ⟨(x.add (i * 9)).block, (x.add (i * 9)).off + 5, none⟩ = some c5 ∧ W.cell? ⟨(x.add (i * 9)).block, (x.add (i * 9)).off + 6, none⟩ = some c6 ∧
        W.cell? ⟨(x.add (i * 9)).block, (x.add (i * 9)).off + 7, none⟩ = some c7 ∧ W.cell? ⟨(x.add (i * 9)).block, (x.add (i * 9)).off + 8, none⟩ = some c8) (fun i hi => by
      obtain ⟨cs, h1, h2⟩ := hV i (by omega)
      rw [hC] at h1
      obtain ⟨_, hlen, hc⟩ := World.cells?_some h1
      obtain ⟨c0, c1, c2, c3, c4, c5, c6, c7, c8, rfl⟩ := list9 hlen
      obtain ⟨d, hd⟩ := do_cells7 h2
      refine ⟨d, c0, c1, c2, c3, c4, c5, c6, c7, c8, hd, ?_, ?_, ?_, ?_, ?_, ?_, ?_, ?_, ?_⟩
      · simpa [Addr.add] using hc 0 (by omega)
      · simpa [Addr.add] using hc 1 (by omega)
      · simpa [Addr.add] using hc 2 (by omega)
      · simpa [Addr.add] using hc 3 (by omega)
      · simpa [Addr.add] using hc 4 (by omega)
      · simpa [Addr.add] using hc 5 (by omega)
      · simpa [Addr.add] using hc 6 (by omega)
      · simpa [Addr.add] using hc 7 (by omega)
      · simpa [Addr.add] using hc 8 (by omega))
    have hlen : ((List.range len).map f).length = len := by simp
    refine ⟨(List.range len).map f, some x, cap, by rw [hlen], fun k d hk => ?_⟩
    have hkl : k < len := by have := (List.getElem?_eq_some_iff.1 hk).1; rwa [hlen] at this
    rw [List.getElem?_map, List.getElem?_range hkl] at hk
    have hk' : f k = d := Option.some.inj hk
    obtain ⟨c0, c1, c2, c3, c4, c5, c6, c7, c8, h1⟩ := hfp k hkl
    rw [hk'] at h1
    exact ⟨x, c0, c1, c2, c3, c4, c5, c6, c7, c8, rfl, h1⟩
end Go.Proofs.YtmlfeljhojmbbaaDoor

namespace Go.Proofs.YtmlfeljhojmbbaaDoor
open Go.ChangeShapes Go.WideShapes Go.ChangeAt Go.RowKit
set_option linter.unusedVariables false
set_option maxRecDepth 100000

def ArgI7 (w : World) (v : Value) (l : List Int) : Prop := ∃ A c, v = .slice A l.length c ∧ Rd w A (l.map (Value.int .i64)) ∧ l.length ≤ 9223372036854775807
theorem open_nums7 {H : Type} {enc : TypeId × Value → H} {W : World} {base base' : Nat} {spare : Nat → Bool} {held : Bool} {r : Reach} {v : Value} {d : DataW H} {ps : List MemPlace} {ts : List TypeId} {ds : List (DataW H)} {j : Nat} {t : TypeId}
    (hsz : (DataW.weightsEach Tryd.prog ts ds).all (· ≤ reachBytes) = true) (ht : ts[j]? = some t) (hd : ds[j]? = some d)
    (hv : Value.okWide Tryd.prog W r base' 41 v) (h : DataW.Trod enc Tryd.prog W base spare held 41 v d ps) (lt : ∀ x ∈ ps, x.block < W.heap.size) : ∃ l, ArgI7 W v l := by
  obtain ⟨a, len, cap, rfl⟩ := okWide_slice Tryd.underlying41 hv
  obtain ⟨fuel, hf⟩ := h
  rcases open_ints Tryd.underlying41 Tryd.underlying3 (by kernel_rfl) hf with ⟨hcs, _⟩ | ⟨x, l, c, zs, hcs, _, hl, hm, hz, hx, hcell, hwz⟩
  · simp [Value.cells] at hcs
    obtain ⟨rfl, rfl, rfl⟩ := hcs
    exact ⟨[], none, 0, rfl, fun hne => absurd rfl hne, Nat.zero_le _⟩
  · simp [Value.cells] at hcs
    obtain ⟨rfl, rfl, rfl⟩ := hcs
    have hl2 : len ≤ zs.length := by
      rw [hz]
      split
      · exact hl
      · exact Nat.le_refl _
    have hlen : (zs.take len).length = len := by rw [List.length_take]; omega
    refine ⟨zs.take len, some x, cap, by rw [hlen], fun _ => ⟨x, rfl, fun k u hu => ?_⟩, by rw [hlen]; unfold maxLen at hm; omega⟩
    rw [List.getElem?_map, List.getElem?_take] at hu
    split at hu
    · rename_i hk
      rw [hcell k (by omega)]
      rw [← hu, List.getD_eq_getElem?_getD, List.getElem?_eq_getElem (by omega)]
      rfl
    · cases hu
end Go.Proofs.YtmlfeljhojmbbaaDoor

namespace Go.Proofs.YtmlfeljhojmbbaaDoor
open Go.RowKit Go.Maps Go.Sort
set_option linter.unusedSimpArgs false
set_option linter.unusedVariables false
set_option maxRecDepth 100000

set_option maxHeartbeats 16000000 in
theorem seglogSynced_run (Al : Option Addr) (cl : Nat) (ds : List Do7) (a1 : Int) (Ak : Option Addr) (M ck : Nat) (ks : List Int) (tn : Nat) (w : World) (hr : RdDo7 w Al ds) (hk : Rd w Ak (ks.map (Value.int .i64))) (hM : ks.length = M) (hMb : M ≤ 9223372036854775807) (htn : tn < 18446744073709551616) (ht : Tb w w.heap.size) :
    Calls Tryd.prog 7 #[.slice Al ds.length cl, .int .i64 a1, .slice Ak M ck, .int .u64 (tn : Int)] w fun e w' => e = .returned (.bool true) ∧ Below w.heap.size w w' := by
  obtain ⟨i0, hi, hz0, hz1, hz2⟩ := info_parts info_rows
  obtain ⟨N1, hU1, hU1b⟩ := u64_nat7 a1
  obtain ⟨fu, hfu60, hT1⟩ := tmod_nat7 N1 60 (by omega)
  have hT1' : ((N1 : Int).tmod 60) = (fu : Int) := hT1
  obtain ⟨NL, hNL⟩ : ∃ NL, NL = ds.length := ⟨_, rfl⟩
  rw [← hNL]
  have HNL := Shut.mk hNL
  have HR := Shut.mk hr
  have HT := Shut.mk ht
  have HK := Shut.mk hk
  have HM := Shut.mk hM
  have HMB := Shut.mk hMb
  clear hNL hr ht hk hM hMb hT1
  go_enter Tryd.func7, Tryd.ntmps7
  go_wp2_with fail
  refine (new_dd w).mono ?_
  rintro e w1 ⟨gd, F1, rfl, hD1, hb1, hF1⟩
  have HOP := Shut.mk (lw_open hD1 hb1 hF1 HT.out)
  clear hD1 hb1 hF1
  go_wp2_with fail
  refine HOP.out.mono ?_
  rintro e w2 ⟨gl, d, rfl, hlw, hfr, _⟩
  have HFU := Shut.mk (lw_fuse hlw fu (by omega))
  have HFR := Shut.mk hfr
  clear hlw hfr
  go_wp2_with fail
  refine HFU.out.mono ?_
  rintro e w3 ⟨rfl, hlw⟩
  have HLR0 := Shut.mk (Lr.new hlw)
  clear hlw hU1 hU1b hT1'
  go_wp2_with fail
  go_loopw [13, 14, 47] (fun u us i wr => ∃ k sure wn : Nat, k ≤ NL ∧ k ≤ 61 ∧ i = .int .i64 (k : Int) ∧ us = .int .i64 (sure : Int) ∧ sure ≤ wn ∧ wn ≤ k ∧ Shut (∃ d cs m rm j ws, Lr w wr gl gd d cs m rm j false (2 + 3 * k) (48 + 8000 * k) u ws ∧ m ≤ 1 + k ∧ flat cs rm = ws ∧ sure ≤ sureN cs j ∧ ws.length = wn ∧ look d.S freshN = none)) (fun _ _ i _ => NL - (intOf i).toNat)
  case atStart => exact ⟨0, 0, 0, Nat.zero_le _, Nat.zero_le _, rfl, rfl, Nat.le_refl _, Nat.le_refl _, ⟨_, [], 1, [], 0, [], HLR0.out, Nat.le_refl _, rfl, Nat.zero_le _, rfl, HFR.out⟩⟩
  case round =>
    obtain ⟨k, sure, wn, hk, hk61, rfl, rfl, hsw, hwk, HS⟩ := hrel
    obtain ⟨d1, cs, m, rm, j, ws, hlr, hm, hfl, hsu, hwl, hfr⟩ := HS.out
    obtain ⟨Au, cu, rfl⟩ : ∃ Au cu, u13 = .slice Au wn cu := by
      obtain ⟨vs, ho, _⟩ := hlr.push
      obtain ⟨A, c, e, _⟩ := ho.form
      exact ⟨A, c, by rw [e, hwl]⟩
    by_cases hlt : k < NL
    · obtain ⟨dk, hdk⟩ : ∃ dk, ds[k]? = some dk := ⟨_, List.getElem?_eq_getElem (by rw [← HNL.out]; exact hlt)⟩
      obtain ⟨ad, c0, c1, c2, c3, c4, c5, c6, c7, c8, rfl, ⟨⟨B, r2, r7, r8, cB, n2, c2', n7, c7', n8, c8', o, nn, ss, tt, rfl, rfl, hrB, rfl, rfl, rfl, rfl, rfl, rfl, rfl, hrc⟩⟩, q0, q1, q2, q3, q4, q5, q6, q7, q8⟩ := HR.out k dk hdk
      obtain ⟨op, rec⟩ := dk
      dsimp only at q0 q1 hrB hrc
      have hbl := hlr.lw.below
      have mv : ∀ {a : Addr} {v : Value}, w.cell? a = some v → wr.cell? a = some v := fun h => (hbl.cell (World.block_lt_of_cell? w _ h)).trans h
      have p0 := mv q0
      have p1 := mv q1
      have p2 := mv q2
      have p3 := mv q3
      have p4 := mv q4
      have p5 := mv q5
      have p6 := mv q6
      have p7 := mv q7
      have p8 := mv q8
      obtain ⟨RL, hRL⟩ : ∃ RL, RL = rec.length := ⟨_, rfl⟩
      have HRL := Shut.mk hRL
      rw [← hRL] at p1 hrc
      have HRB := Shut.mk hrB
      have HRBR := Shut.mk (hrB.keep hbl)
      have HRC := Shut.mk hrc
      have hkI : (k : Int) < (NL : Int) := by omega
      obtain ⟨WB, hWB⟩ : ∃ WB, wr.alloc (.cells #[.int .i64 op, .slice B RL cB, .slice r2 n2 c2', .int .i64 o, .int .i64 nn, .string ss, .string tt, .slice r7 n7 c7', .slice r8 n8 c8'] 56) = WB := ⟨_, rfl⟩
      have hbx : Below wr.heap.size wr WB := by rw [← hWB]; exact (Below.refl _ wr).alloc (Nat.le_refl _) _
      have HBX := Shut.mk hbx
      have bx0 : WB.cell? ⟨wr.heap.size, 0, none⟩ = some (.int .i64 op) := by rw [← hWB]; exact (Blk.new wr _ _).cell 0
      have bx1 : WB.cell? ⟨wr.heap.size, 1, none⟩ = some (.slice B RL cB) := by rw [← hWB]; exact (Blk.new wr _ _).cell 1
      have hszb : WB.heap.size = wr.heap.size + 1 := by rw [← hWB]; simp
      have HSZB := Shut.mk hszb
      have HLR := Shut.mk (hlr.quiet hbx)
      obtain ⟨H4, gL4, glt4, gu4, grw4⟩ := hlr.go
      have HGO := Shut.mk (And.intro (gL4.quiet hbx) (And.intro (fun x hx => Nat.lt_of_lt_of_le (glt4 x hx) hbx.size : ∀ x ∈ H4, x < WB.heap.size) (And.intro gu4 (grw4.quiet hbx))))
      have HHW := Shut.mk glt4
      have HM1 := Shut.mk hm
      have HFL := Shut.mk hfl
      have HSU := Shut.mk hsu
      have HWL := Shut.mk hwl
      have HFR1 := Shut.mk hfr
      clear gL4 glt4 gu4 grw4 q0 q1 q2 q3 q4 q5 q6 q7 q8 hrB hlr hm hfl hsu hwl hfr hbl mv hRL hbx hdk HS hrc hszb
      by_cases hk60 : k ≤ 60
      · by_cases hop : op.tmod 4 = 0
        · -- Sync
          go_wp2_with fail
          obtain ⟨hL4, hlt4, hu4, hrw4⟩ := HGO.out
          have HSY := Shut.mk (sync_log hL4 HLR.out.lw.lgd HLR.out.lw.liv (by have := HM1.out; omega) (by omega) HFR1.out)
          have HL4 := Shut.mk (And.intro hL4 (And.intro hlt4 (And.intro hu4 hrw4)))
          clear hL4 hlt4 hu4 hrw4 p0 p1 p2 p3 p4 p5 p6 p7 p8 bx0 bx1 hWB hop
          refine HSY.out.mono ?_
          rintro e w5 ⟨E, d2, j2, dead2, rfl, hst, hlg, hlv, hff, hcase⟩
          have hlr5 := Lr.step HLR.out.lw HL4.out.1 HL4.out.2.1 HL4.out.2.2.1 HL4.out.2.2.2 hst hlg hlv
          rcases hcase with ⟨rfl, rfl, rfl, hfr2⟩ | ⟨rfl, rfl, rfl, _, _⟩
          · have HS2 : Shut (∃ d cs m rm j ws, Lr w w5 gl gd d cs m rm j false (2 + 3 * (k + 1)) (48 + 8000 * (k + 1)) (.slice Au wn cu) ws ∧ m ≤ 1 + (k + 1) ∧ flat cs rm = ws ∧ wn ≤ sureN cs j ∧ ws.length = wn ∧ look d.S freshN = none) := ⟨d2, cs, m, rm, rm.length, ws, hlr5.mono (by omega) (by omega), by have := HM1.out; omega, HFL.out, by rw [← HWL.out, ← HFL.out, flat_length]; exact Nat.le_refl _, HWL.out, hfr2⟩
            clear hlr5 hst hlg hlv hff hfr2
            go_wp2_with fail
            go_roundw
            case rel => exact ⟨k + 1, wn, wn, by omega, by omega, by go_num, rfl, Nat.le_refl _, by omega, HS2⟩
            case measure => first | (simp [intOf]; done) | (simp [intOf]; omega)
          · have HLRX := Shut.mk (hlr5.mono (N' := 200) (U' := 600000) (by omega) (by omega))
            have HPX : Shut (flat cs rm <+: ws) := ⟨by rw [HFL.out]; exact List.prefix_refl _⟩
            have HSX := HSU
            have HWX := HWL
            have HMX : Shut (m ≤ 100) := ⟨by have := HM1.out; omega⟩
            have hwk2 : wn ≤ 61 := by omega
            clear hlr5 hst hlg hlv hff hk60 hkI hlt hk61 hk
            go_wp2_with fail
            refine (lw_tails HLRX.out.lw (by have := HMX.out; omega) (by omega) Ak M ck ks (rd_kept HK.out (Kb.of_below HLRX.out.lw.below []) (fun a ha _ hx => by cases hx)) HM.out HMB.out tn htn).mono ?_
            rintro e w14 ⟨Bt, ct, tl, rfl, hRt, hlt14, hbt, hb14⟩
            have HLR14 := Shut.mk (HLRX.out.quiet hb14)
            obtain ⟨H14, hL14, hlx14, hu14, hrw14⟩ := HLR14.out.go
            have HCR := Shut.mk (lw_crash2 HLR14.out.lw hL14 (by have := HMX.out; omega) Bt ct tl hRt hlt14 hbt)
            have HG14 := Shut.mk (And.intro hL14 (And.intro hlx14 (And.intro hu14 hrw14)))
            clear hRt hlt14 hbt hb14 hL14 hlx14 hu14 hrw14
            go_wp2_with fail
            refine HCR.out.mono ?_
            rintro e w15 ⟨rfl, F15, d15, i15, B15, hD15, hF15, hb15, hc15, hji, hirm, hop15, hrd15, hk15, hs15⟩
            have hrw15 := HG14.out.2.2.2.kept hk15 HG14.out.2.2.1 (fun x hx _ hxH => by have := HG14.out.1.z x hxH; omega)
            have hu15 : ∀ g, (Value.slice Au (wn) cu).ownBlock = some g → g ∉ F15 := fun g hg hx => (hs15 g hx).elim (HG14.out.2.2.1 g hg) (fun h => by
              obtain ⟨vs, ho, _⟩ := HG14.out.2.2.2
              have := ho.block_lt hg
              omega)
            have HOP15 := Shut.mk (opb_open hD15 hF15 hb15 HT.out hc15 (by omega) hop15 (by have := HMX.out; omega))
            rw [hrd15] at HOP15
            have HW15 := Shut.mk (And.intro hrw15 (And.intro hu15 hF15))
            have HJI := Shut.mk (And.intro hji hirm)
            clear hD15 hF15 hb15 hc15 hji hirm hop15 hrd15 hk15 hs15 hrw15 hu15
            go_wp2_with fail
            refine HOP15.out.mono ?_
            rintro e w16 ⟨ga, v16, d16, rfl, hrec16, _, hlw16, _, _, hk16⟩
            have hrw16 := HW15.out.1.kept hk16 HW15.out.2.1 (fun x hx _ hxF => by have := HW15.out.2.2 x hxF; omega)
            obtain ⟨vs1, hro, hrr, _⟩ := hrec16
            obtain ⟨vs2, hwo, hwr, _⟩ := hrw16
            have hpre := (flat_take cs rm i15).trans HPX.out
            obtain ⟨RN, hRN⟩ : ∃ RN, RN = (flat cs (rm.take i15)).length := ⟨_, rfl⟩
            have hRN2 : RN = (cs.flatMap (·.2)).length + i15 := by
              have := HJI.out.2
              rw [hRN, flat_length, List.length_take]
              omega
            have hsR : sure ≤ RN := by
              have h1 := HSX.out
              have h2 := HJI.out.1
              unfold sureN at h1
              omega
            have hRW : RN ≤ wn := by
              have h1 := hpre.length_le
              rw [HWX.out] at h1
              omega
            have htk : (ws).take RN = flat cs (rm.take i15) := by
              rw [hRN]
              exact (List.prefix_iff_eq_take.1 hpre).symm
            obtain ⟨A16, c16, rfl, hxd, _⟩ := hro.form
            obtain ⟨A17, c17, e17, hyd, hwc, _⟩ := hwo.form
            injection e17 with h17 h19 h18
            clear h19
            subst h17
            subst h18
            have HSAME := Shut.mk (same_calls A16 Au RN RN c16 cu vs1 (vs2.take RN) (flat cs (rm.take i15)) ((ws).take RN) _ _ w16 hxd hrr (rd_take7 hyd RN) (rwV_take hwr RN) hRN.symm (by rw [List.length_take, HWX.out]; omega) (by omega) (by omega))
            rw [decide_eq_true htk.symm] at HSAME
            rw [← hRN]
            have HBLW := Shut.mk hlw16.below
            have hwcap : wn ≤ cu := by rw [HWX.out] at hwc; exact hwc
            have hRc : RN ≤ cu := by omega
            have hRI : (RN : Int) ≤ ((wn : Nat) : Int) := by omega
            have hsI : (sure : Int) ≤ (RN : Int) := by omega
            clear hlw16 hro hrr hwo hwr hpre hRN hRN2 htk hxd hyd hwc hk16
            go_wp2_with fail
            refine HSAME.out.mono ?_
            rintro e w17 ⟨rfl, rfl⟩
            go_wp2_with fail
            go_ret
            exact ⟨by rfl, HBLW.out⟩
        · -- Append
          by_cases hok : 1 ≤ RL ∧ RL ≤ 4000
          · obtain ⟨hok1, hok2⟩ := hok
            go_wp2_with fail
            obtain ⟨hL4, hlt4, hu4, hrw4⟩ := HGO.out
            have HAP := Shut.mk (append_calls hL4 hlt4 HLR.out.lw.lgd HFR1.out HLR.out.lw.liv (by have := HM1.out; omega) (by omega) (by omega) B RL cB rec (HRBR.out.keep HBX.out) HRL.out.symm hok1 hok2)
            have HL4 := Shut.mk (And.intro hL4 (And.intro hlt4 (And.intro hu4 hrw4)))
            have HBW : Shut (∀ a, B = some a → a.block < w.heap.size) := ⟨fun a ha => by
              obtain ⟨a9, e9, hc9⟩ := HRB.out 0 (by rw [← HRL.out]; omega)
              rw [ha] at e9
              cases e9
              have := World.block_lt_of_cell? w _ hc9
              rwa [block_of_add] at this⟩
            clear hL4 hlt4 hu4 hrw4 p0 p1 p2 p3 p4 p5 p6 p7 p8 hWB
            refine HAP.out.mono ?_
            rintro e w5 ⟨E, d2, cs2, m2, rm2, j2, dead2, rfl, hto⟩
            have hlr5 := (Lr.step HLR.out.lw HL4.out.1 HL4.out.2.1 HL4.out.2.2.1 HL4.out.2.2.2 hto.stp hto.lgd hto.liv).mono (N' := 2 + 3 * (k + 1)) (U' := 48 + 8000 * (k + 1)) (by omega) (by omega)
            obtain ⟨vs5, ho5, hpu5⟩ := hlr5.push
            rw [HWL.out] at ho5 hpu5
            have hm5 := hto.num
            have hsu5 := hto.sure
            have hkb5 : w5.cell? ⟨wr.heap.size, 1, none⟩ = some (.slice B RL cB) := by
              obtain ⟨H9, g1, g2, g3⟩ := hto.stp
              refine (World.cell?_of_block (w := WB) (g2.block wr.heap.size (by show wr.heap.size < _; rw [HSZB.out]; omega) (fun hx => ?_))).trans bx1
              have := HHW.out _ hx
              omega
            have HPU := Shut.mk (fun (o : Obj) (w' : World) (u' : Value) (hap : Appended (w5.alloc o) w' 22 1 (.slice Au wn cu) u' wn 1 vs5 [.slice B RL cB]) => hpu5 o w' u' B cB rec HRB.out HBW.out (by rw [← HRL.out]; exact HRC.out) (by rw [← HRL.out]; exact hap))
            have HO5 := Shut.mk ho5
            rcases hto.res with ⟨rfl, rfl, hfr2, hfl2, hcase⟩ | ⟨rfl, rfl, _, _, hfl2⟩
            · have HX2 := Shut.mk (And.intro hfr2 (And.intro hfl2 (And.intro hm5 hsu5)))
              clear hlr5 ho5 hpu5 hm5 hsu5 hfr2 hfl2 hcase hto bx0 bx1
              go_wp2_with (at_builtin; refine wpList_append _ rfl _ _ _ rfl 22 i0 _ 1 24 Tryd.underlying32 hi hz0 hz1 hz2 rfl (by decide) _ _ _ rfl (HO5.out.alloc _) _ 1 1 _ rfl (by rfl) (rd_new _ _ 22) (by simp [Value.oneCell']) (by simp only [maxLen]; omega) (by omega) ?_; intro v8 w8 hap8)
              have hlr8 := HPU.out _ _ _ hap8
              have HS2 : Shut (∃ d cs m rm j ws, Lr w w8 gl gd d cs m rm j false (2 + 3 * (k + 1)) (48 + 8000 * (k + 1)) v8 ws ∧ m ≤ 1 + (k + 1) ∧ flat cs rm = ws ∧ sure ≤ sureN cs j ∧ ws.length = wn + 1 ∧ look d.S freshN = none) := ⟨d2, cs2, m2, rm2, j2, ws ++ [rec], hlr8, by have := HM1.out; have := HX2.out.2.2.1; omega, by rw [HX2.out.2.1, HFL.out], Nat.le_trans HSU.out HX2.out.2.2.2, by rw [List.length_append, HWL.out]; rfl, HX2.out.1⟩
              clear hlr8
              go_roundw
              case rel => exact ⟨k + 1, sure, wn + 1, by omega, by omega, by go_num, rfl, by omega, by omega, HS2⟩
              case measure => first | (simp [intOf]; done) | (simp [intOf]; omega)
            · have HX2 := Shut.mk (And.intro hfl2 (And.intro hm5 hsu5))
              clear hlr5 ho5 hpu5 hm5 hsu5 hfl2 hto bx0 bx1
              go_wp2_with (at_builtin; refine wpList_append _ rfl _ _ _ rfl 22 i0 _ 1 24 Tryd.underlying32 hi hz0 hz1 hz2 rfl (by decide) _ _ _ rfl (HO5.out.alloc _) _ 1 1 _ rfl (by rfl) (rd_new _ _ 22) (by simp [Value.oneCell']) (by simp only [maxLen]; omega) (by omega) ?_; intro v8 w8 hap8)
              have hlr8 := (HPU.out _ _ _ hap8).mono (N' := 200) (U' := 600000) (by omega) (by omega)
              obtain ⟨A8, c8', rfl⟩ : ∃ A8 c8', v8 = .slice A8 (wn + 1) c8' := by
                obtain ⟨A, c, e, _⟩ := hap8.own.form
                exact ⟨A, c, e⟩
              have HLRX := Shut.mk hlr8
              have HPX : Shut (flat cs2 rm2 <+: ws ++ [rec]) := ⟨by rw [HX2.out.1, HFL.out]; exact List.prefix_append _ _⟩
              have HSX : Shut (sure ≤ sureN cs2 j2) := ⟨Nat.le_trans HSU.out HX2.out.2.2⟩
              have HWX : Shut ((ws ++ [rec]).length = wn + 1) := ⟨by rw [List.length_append, HWL.out]; rfl⟩
              have HMX : Shut (m2 ≤ 100) := ⟨by have := HM1.out; have := HX2.out.2.1; omega⟩
              have hwk2 : wn + 1 ≤ 61 := by omega
              clear hlr8 hap8 hkb5 hk60 hkI hlt hk61 hk hop hok1 hok2 hi hz0 hz1 hz2
              refine (lw_tails HLRX.out.lw (by have := HMX.out; omega) (by omega) Ak M ck ks (rd_kept HK.out (Kb.of_below HLRX.out.lw.below []) (fun a ha _ hx => by cases hx)) HM.out HMB.out tn htn).mono ?_
              rintro e w14 ⟨Bt, ct, tl, rfl, hRt, hlt14, hbt, hb14⟩
              have HLR14 := Shut.mk (HLRX.out.quiet hb14)
              obtain ⟨H14, hL14, hlx14, hu14, hrw14⟩ := HLR14.out.go
              have HCR := Shut.mk (lw_crash2 HLR14.out.lw hL14 (by have := HMX.out; omega) Bt ct tl hRt hlt14 hbt)
              have HG14 := Shut.mk (And.intro hL14 (And.intro hlx14 (And.intro hu14 hrw14)))
              clear hRt hlt14 hbt hb14 hL14 hlx14 hu14 hrw14
              go_wp2_with fail
              refine HCR.out.mono ?_
              rintro e w15 ⟨rfl, F15, d15, i15, B15, hD15, hF15, hb15, hc15, hji, hirm, hop15, hrd15, hk15, hs15⟩
              have hrw15 := HG14.out.2.2.2.kept hk15 HG14.out.2.2.1 (fun x hx _ hxH => by have := HG14.out.1.z x hxH; omega)
              have hu15 : ∀ g, (Value.slice A8 (wn + 1) c8').ownBlock = some g → g ∉ F15 := fun g hg hx => (hs15 g hx).elim (HG14.out.2.2.1 g hg) (fun h => by
                obtain ⟨vs, ho, _⟩ := HG14.out.2.2.2
                have := ho.block_lt hg
                omega)
              have HOP15 := Shut.mk (opb_open hD15 hF15 hb15 HT.out hc15 (by omega) hop15 (by have := HMX.out; omega))
              rw [hrd15] at HOP15
              have HW15 := Shut.mk (And.intro hrw15 (And.intro hu15 hF15))
              have HJI := Shut.mk (And.intro hji hirm)
              clear hD15 hF15 hb15 hc15 hji hirm hop15 hrd15 hk15 hs15 hrw15 hu15
              go_wp2_with fail
              refine HOP15.out.mono ?_
              rintro e w16 ⟨ga, v16, d16, rfl, hrec16, _, hlw16, _, _, hk16⟩
              have hrw16 := HW15.out.1.kept hk16 HW15.out.2.1 (fun x hx _ hxF => by have := HW15.out.2.2 x hxF; omega)
              obtain ⟨vs1, hro, hrr, _⟩ := hrec16
              obtain ⟨vs2, hwo, hwr, _⟩ := hrw16
              have hpre := (flat_take cs2 rm2 i15).trans HPX.out
              obtain ⟨RN, hRN⟩ : ∃ RN, RN = (flat cs2 (rm2.take i15)).length := ⟨_, rfl⟩
              have hRN2 : RN = (cs2.flatMap (·.2)).length + i15 := by
                have := HJI.out.2
                rw [hRN, flat_length, List.length_take]
                omega
              have hsR : sure ≤ RN := by
                have h1 := HSX.out
                have h2 := HJI.out.1
                unfold sureN at h1
                omega
              have hRW : RN ≤ wn + 1 := by
                have h1 := hpre.length_le
                rw [HWX.out] at h1
                omega
              have htk : (ws ++ [rec]).take RN = flat cs2 (rm2.take i15) := by
                rw [hRN]
                exact (List.prefix_iff_eq_take.1 hpre).symm
              obtain ⟨A16, c16, rfl, hxd, _⟩ := hro.form
              obtain ⟨A17, c17, e17, hyd, hwc, _⟩ := hwo.form
              injection e17 with h17 h19 h18
              clear h19
              subst h17
              subst h18
              have HSAME := Shut.mk (same_calls A16 A8 RN RN c16 c8' vs1 (vs2.take RN) (flat cs2 (rm2.take i15)) ((ws ++ [rec]).take RN) _ _ w16 hxd hrr (rd_take7 hyd RN) (rwV_take hwr RN) hRN.symm (by rw [List.length_take, HWX.out]; omega) (by omega) (by omega))
              rw [decide_eq_true htk.symm] at HSAME
              rw [← hRN]
              have HBLW := Shut.mk hlw16.below
              have hwcap : wn + 1 ≤ c8' := by rw [HWX.out] at hwc; exact hwc
              have hRc : RN ≤ c8' := by omega
              have hRI : (RN : Int) ≤ ((wn + 1 : Nat) : Int) := by omega
              have hsI : (sure : Int) ≤ (RN : Int) := by omega
              clear hlw16 hro hrr hwo hwr hpre hRN hRN2 htk hxd hyd hwc hk16
              go_wp2_with fail
              refine HSAME.out.mono ?_
              rintro e w17 ⟨rfl, rfl⟩
              go_wp2_with fail
              go_ret
              exact ⟨by rfl, HBLW.out⟩
          · have hbad : RL < 1 ∨ 4000 < RL := by omega
            go_wp2_with fail
            obtain ⟨hL4, hlt4, hu4, hrw4⟩ := HGO.out
            have HAP := Shut.mk (append_not hL4 B RL cB hbad)
            clear hL4 hlt4 hu4 hrw4 p0 p1 p2 p3 p4 p5 p6 p7 p8 bx0 bx1 hok hWB
            refine HAP.out.mono ?_
            rintro e w5 ⟨rfl, rfl⟩
            have HS2 : Shut (∃ d cs m rm j ws, Lr w WB gl gd d cs m rm j false (2 + 3 * (k + 1)) (48 + 8000 * (k + 1)) (.slice Au wn cu) ws ∧ m ≤ 1 + (k + 1) ∧ flat cs rm = ws ∧ sure ≤ sureN cs j ∧ ws.length = wn ∧ look d.S freshN = none) := ⟨d1, cs, m, rm, j, ws, HLR.out.mono (by omega) (by omega), by have := HM1.out; omega, HFL.out, HSU.out, HWL.out, HFR1.out⟩
            go_wp2_with fail
            go_roundw
            case rel => exact ⟨k + 1, sure, wn, by omega, by omega, by go_num, rfl, by omega, by omega, HS2⟩
            case measure => first | (simp [intOf]; done) | (simp [intOf]; omega)
      · have hk601 : 60 < k := by omega
        have HLRX := Shut.mk (HLR.out.mono (N' := 200) (U' := 600000) (by omega) (by omega))
        have HPX : Shut (flat cs rm <+: ws) := ⟨by rw [HFL.out]; exact List.prefix_refl _⟩
        have HSX := HSU
        have HWX := HWL
        have HMX : Shut (m ≤ 100) := ⟨by have := HM1.out; omega⟩
        have hwk2 : wn ≤ 61 := by omega
        go_wp2_with fail
        clear p0 p1 p2 p3 p4 p5 p6 p7 p8 bx0 bx1 hWB hk60 hk601 hkI hlt hk61 hk hwk
        refine (lw_tails HLRX.out.lw (by have := HMX.out; omega) (by omega) Ak M ck ks (rd_kept HK.out (Kb.of_below HLRX.out.lw.below []) (fun a ha _ hx => by cases hx)) HM.out HMB.out tn htn).mono ?_
        rintro e w14 ⟨Bt, ct, tl, rfl, hRt, hlt14, hbt, hb14⟩
        have HLR14 := Shut.mk (HLRX.out.quiet hb14)
        obtain ⟨H14, hL14, hlx14, hu14, hrw14⟩ := HLR14.out.go
        have HCR := Shut.mk (lw_crash2 HLR14.out.lw hL14 (by have := HMX.out; omega) Bt ct tl hRt hlt14 hbt)
        have HG14 := Shut.mk (And.intro hL14 (And.intro hlx14 (And.intro hu14 hrw14)))
        clear hRt hlt14 hbt hb14 hL14 hlx14 hu14 hrw14
        go_wp2_with fail
        refine HCR.out.mono ?_
        rintro e w15 ⟨rfl, F15, d15, i15, B15, hD15, hF15, hb15, hc15, hji, hirm, hop15, hrd15, hk15, hs15⟩
        have hrw15 := HG14.out.2.2.2.kept hk15 HG14.out.2.2.1 (fun x hx _ hxH => by have := HG14.out.1.z x hxH; omega)
        have hu15 : ∀ g, (Value.slice Au (wn) cu).ownBlock = some g → g ∉ F15 := fun g hg hx => (hs15 g hx).elim (HG14.out.2.2.1 g hg) (fun h => by
          obtain ⟨vs, ho, _⟩ := HG14.out.2.2.2
          have := ho.block_lt hg
          omega)
        have HOP15 := Shut.mk (opb_open hD15 hF15 hb15 HT.out hc15 (by omega) hop15 (by have := HMX.out; omega))
        rw [hrd15] at HOP15
        have HW15 := Shut.mk (And.intro hrw15 (And.intro hu15 hF15))
        have HJI := Shut.mk (And.intro hji hirm)
        clear hD15 hF15 hb15 hc15 hji hirm hop15 hrd15 hk15 hs15 hrw15 hu15
        go_wp2_with fail
        refine HOP15.out.mono ?_
        rintro e w16 ⟨ga, v16, d16, rfl, hrec16, _, hlw16, _, _, hk16⟩
        have hrw16 := HW15.out.1.kept hk16 HW15.out.2.1 (fun x hx _ hxF => by have := HW15.out.2.2 x hxF; omega)
        obtain ⟨vs1, hro, hrr, _⟩ := hrec16
        obtain ⟨vs2, hwo, hwr, _⟩ := hrw16
        have hpre := (flat_take cs rm i15).trans HPX.out
        obtain ⟨RN, hRN⟩ : ∃ RN, RN = (flat cs (rm.take i15)).length := ⟨_, rfl⟩
        have hRN2 : RN = (cs.flatMap (·.2)).length + i15 := by
          have := HJI.out.2
          rw [hRN, flat_length, List.length_take]
          omega
        have hsR : sure ≤ RN := by
          have h1 := HSX.out
          have h2 := HJI.out.1
          unfold sureN at h1
          omega
        have hRW : RN ≤ wn := by
          have h1 := hpre.length_le
          rw [HWX.out] at h1
          omega
        have htk : (ws).take RN = flat cs (rm.take i15) := by
          rw [hRN]
          exact (List.prefix_iff_eq_take.1 hpre).symm
        obtain ⟨A16, c16, rfl, hxd, _⟩ := hro.form
        obtain ⟨A17, c17, e17, hyd, hwc, _⟩ := hwo.form
        injection e17 with h17 h19 h18
        clear h19
        subst h17
        subst h18
        have HSAME := Shut.mk (same_calls A16 Au RN RN c16 cu vs1 (vs2.take RN) (flat cs (rm.take i15)) ((ws).take RN) _ _ w16 hxd hrr (rd_take7 hyd RN) (rwV_take hwr RN) hRN.symm (by rw [List.length_take, HWX.out]; omega) (by omega) (by omega))
        rw [decide_eq_true htk.symm] at HSAME
        rw [← hRN]
        have HBLW := Shut.mk hlw16.below
        have hwcap : wn ≤ cu := by rw [HWX.out] at hwc; exact hwc
        have hRc : RN ≤ cu := by omega
        have hRI : (RN : Int) ≤ ((wn : Nat) : Int) := by omega
        have hsI : (sure : Int) ≤ (RN : Int) := by omega
        clear hlw16 hro hrr hwo hwr hpre hRN hRN2 htk hxd hyd hwc hk16
        go_wp2_with fail
        refine HSAME.out.mono ?_
        rintro e w17 ⟨rfl, rfl⟩
        go_wp2_with fail
        go_ret
        exact ⟨by rfl, HBLW.out⟩
    · obtain rfl : k = NL := by omega
      have HLRX := Shut.mk (hlr.mono (N' := 200) (U' := 600000) (by omega) (by omega))
      have HPX : Shut (flat cs rm <+: ws) := ⟨by rw [hfl]; exact List.prefix_refl _⟩
      have HSX := Shut.mk hsu
      have HWX := Shut.mk hwl
      have HMX : Shut (m ≤ 100) := ⟨by omega⟩
      have hwk2 : wn ≤ 61 := by omega
      clear hlr hfl hsu hwl hfr hm HS
      go_wp2_with fail
      refine (lw_tails HLRX.out.lw (by have := HMX.out; omega) (by omega) Ak M ck ks (rd_kept HK.out (Kb.of_below HLRX.out.lw.below []) (fun a ha _ hx => by cases hx)) HM.out HMB.out tn htn).mono ?_
      rintro e w14 ⟨Bt, ct, tl, rfl, hRt, hlt14, hbt, hb14⟩
      have HLR14 := Shut.mk (HLRX.out.quiet hb14)
      obtain ⟨H14, hL14, hlx14, hu14, hrw14⟩ := HLR14.out.go
      have HCR := Shut.mk (lw_crash2 HLR14.out.lw hL14 (by have := HMX.out; omega) Bt ct tl hRt hlt14 hbt)
      have HG14 := Shut.mk (And.intro hL14 (And.intro hlx14 (And.intro hu14 hrw14)))
      clear hRt hlt14 hbt hb14 hL14 hlx14 hu14 hrw14
      go_wp2_with fail
      refine HCR.out.mono ?_
      rintro e w15 ⟨rfl, F15, d15, i15, B15, hD15, hF15, hb15, hc15, hji, hirm, hop15, hrd15, hk15, hs15⟩
      have hrw15 := HG14.out.2.2.2.kept hk15 HG14.out.2.2.1 (fun x hx _ hxH => by have := HG14.out.1.z x hxH; omega)
      have hu15 : ∀ g, (Value.slice Au (wn) cu).ownBlock = some g → g ∉ F15 := fun g hg hx => (hs15 g hx).elim (HG14.out.2.2.1 g hg) (fun h => by
        obtain ⟨vs, ho, _⟩ := HG14.out.2.2.2
        have := ho.block_lt hg
        omega)
      have HOP15 := Shut.mk (opb_open hD15 hF15 hb15 HT.out hc15 (by omega) hop15 (by have := HMX.out; omega))
      rw [hrd15] at HOP15
      have HW15 := Shut.mk (And.intro hrw15 (And.intro hu15 hF15))
      have HJI := Shut.mk (And.intro hji hirm)
      clear hD15 hF15 hb15 hc15 hji hirm hop15 hrd15 hk15 hs15 hrw15 hu15
      go_wp2_with fail
      refine HOP15.out.mono ?_
      rintro e w16 ⟨ga, v16, d16, rfl, hrec16, _, hlw16, _, _, hk16⟩
      have hrw16 := HW15.out.1.kept hk16 HW15.out.2.1 (fun x hx _ hxF => by have := HW15.out.2.2 x hxF; omega)
      obtain ⟨vs1, hro, hrr, _⟩ := hrec16
      obtain ⟨vs2, hwo, hwr, _⟩ := hrw16
      have hpre := (flat_take cs rm i15).trans HPX.out
      obtain ⟨RN, hRN⟩ : ∃ RN, RN = (flat cs (rm.take i15)).length := ⟨_, rfl⟩
      have hRN2 : RN = (cs.flatMap (·.2)).length + i15 := by
        have := HJI.out.2
        rw [hRN, flat_length, List.length_take]
        omega
      have hsR : sure ≤ RN := by
        have h1 := HSX.out
        have h2 := HJI.out.1
        unfold sureN at h1
        omega
      have hRW : RN ≤ wn := by
        have h1 := hpre.length_le
        rw [HWX.out] at h1
        omega
      have htk : (ws).take RN = flat cs (rm.take i15) := by
        rw [hRN]
        exact (List.prefix_iff_eq_take.1 hpre).symm
      obtain ⟨A16, c16, rfl, hxd, _⟩ := hro.form
      obtain ⟨A17, c17, e17, hyd, hwc, _⟩ := hwo.form
      injection e17 with h17 h19 h18
      clear h19
      subst h17
      subst h18
      have HSAME := Shut.mk (same_calls A16 Au RN RN c16 cu vs1 (vs2.take RN) (flat cs (rm.take i15)) ((ws).take RN) _ _ w16 hxd hrr (rd_take7 hyd RN) (rwV_take hwr RN) hRN.symm (by rw [List.length_take, HWX.out]; omega) (by omega) (by omega))
      rw [decide_eq_true htk.symm] at HSAME
      rw [← hRN]
      have HBLW := Shut.mk hlw16.below
      have hwcap : wn ≤ cu := by rw [HWX.out] at hwc; exact hwc
      have hRc : RN ≤ cu := by omega
      have hRI : (RN : Int) ≤ ((wn : Nat) : Int) := by omega
      have hsI : (sure : Int) ≤ (RN : Int) := by omega
      clear hlw16 hro hrr hwo hwr hpre hRN hRN2 htk hxd hyd hwc hk16
      go_wp2_with fail
      refine HSAME.out.mono ?_
      rintro e w17 ⟨rfl, rfl⟩
      go_wp2_with fail
      go_ret
      exact ⟨by rfl, HBLW.out⟩
theorem seglogSynced_walk (v : Value) (ds : List Do7) (a1 : Int) (u : Value) (ks : List Int) (t : Int) (w : World) (hx : ArgDo7 w v ds) (h1 : -9223372036854775808 ≤ a1) (h1' : a1 ≤ 9223372036854775807) (hy : ArgI7 w u ks) (t0 : 0 ≤ t) (t1 : t ≤ 18446744073709551615) (ht : Tb w w.heap.size) :
    Calls Tryd.prog 7 #[v, .int .i64 a1, u, .int .u64 t] w fun e w' => e = .returned (.bool true) ∧ Below w.heap.size w w' := by
  obtain ⟨Al, cl, rfl, hr⟩ := hx
  obtain ⟨Ak, ck, rfl, hk, hm⟩ := hy
  obtain ⟨tn, rfl⟩ : ∃ tn : Nat, t = (tn : Int) := ⟨t.toNat, by omega⟩
  exact seglogSynced_run Al cl ds a1 Ak ks.length ck ks tn w hr hk rfl hm (by omega) ht
end Go.Proofs.YtmlfeljhojmbbaaDoor
