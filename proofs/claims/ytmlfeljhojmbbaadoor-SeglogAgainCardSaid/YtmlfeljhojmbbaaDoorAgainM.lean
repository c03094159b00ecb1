/- Opening a law's argument that is a list of calls of a log. Walk: the law SeglogAgain answers true (printed by wip/genagain.py). -/
import Derived.Test.YtmlfeljhojmbbaaDoorLgE
import Derived.Deep.Slices
import Derived.Test.YtmlfeljhojmbbaaDoorLgF
namespace Go.Proofs.YtmlfeljhojmbbaaDoor
open Go.ChangeShapes Go.WideShapes Go.ChangeAt Go.RowKit Go.Deep
set_option linter.unusedVariables false
set_option maxRecDepth 100000

theorem bytes_cell7 {H : Type} {enc : TypeId × Value → H} {P : Program} {W : World} {base : Nat} {spare : Nat → Bool} {held : Bool} {t e : TypeId} {v : Value} {d : DataW H} {ps : List MemPlace} {n : Nat}
    (hu : P.underlying t = some (.slice e)) (he : P.underlying e = some (.int .u8)) (hc : P.cellsOf e = 1) (h : DataW.trod enc P W base spare held n t [v] = some (d, ps)) :
    ∃ (A : Option Addr) (l : List UInt8) (c : Nat), v = .slice A l.length c ∧ RdB W A l ∧ l.length ≤ c ∧ c ≤ maxLen := by
  rcases open_ints hu he hc h with ⟨hcs, _⟩ | ⟨x, l, c, zs, hcs, _, hl, hm, hz, hx, hcell, hwz⟩
  · obtain rfl : v = .slice none 0 0 := by simpa using hcs
    exact ⟨none, [], 0, rfl, fun k hk => by simp at hk, Nat.le_refl _, by simp [maxLen]⟩
  · obtain rfl : v = .slice (some x) l c := by simpa using hcs
    have hl2 : l ≤ zs.length := by
      rw [hz]
      split
      · exact hl
      · exact Nat.le_refl _
    obtain ⟨bs, hbl, hbr⟩ := rdB_ints hl2 hcell hwz
    subst hbl
    exact ⟨some x, bs, c, rfl, hbr, hl, hm⟩
/-- any slice's shape -/
theorem slice_cell7 {H : Type} {enc : TypeId × Value → H} {P : Program} {W : World} {base : Nat} {spare : Nat → Bool} {held : Bool} {t e : TypeId} {v : Value} {x : DataW H × List MemPlace} {n : Nat}
    (hu : P.underlying t = some (.slice e)) (h : DataW.trod enc P W base spare held n t [v] = some x) : ∃ (A : Option Addr) (n c : Nat), v = .slice A n c := by
  rcases Go.Deep.open_slice hu h with ⟨hcs, _⟩ | ⟨x, l, c, m, n, D, Pl, hcs, _⟩
  · exact ⟨none, 0, 0, by simpa using hcs⟩
  · exact ⟨some x, l, c, by simpa using hcs⟩
theorem list9 {α : Type} {cs : List α} (h : cs.length = 9) : ∃ c0 c1 c2 c3 c4 c5 c6 c7 c8, cs = [c0, c1, c2, c3, c4, c5, c6, c7, c8] := by
  match cs, h with
  | [c0, c1, c2, c3, c4, c5, c6, c7, c8], _ => exact ⟨c0, c1, c2, c3, c4, c5, c6, c7, c8, rfl⟩
/-- a call: what it is, and its record -/
abbrev Do7 := Int × List UInt8
/-- a call's cells -/
structure DoCells (c0 c1 c2 c3 c4 c5 c6 c7 c8 : Value) (W : World) (d : Do7) : Prop where
  go : ∃ (B r2 r7 r8 : Option Addr) (c n2 c2' n7 c7' n8 c8' : Nat) (o n : Int) (s t : ByteArray), c0 = .int .i64 d.1 ∧ c1 = .slice B d.2.length c ∧ RdB W B d.2 ∧ c2 = .slice r2 n2 c2' ∧ c3 = .int .i64 o ∧ c4 = .int .i64 n ∧ c5 = .string s ∧ c6 = .string t ∧ c7 = .slice r7 n7 c7' ∧ c8 = .slice r8 n8 c8'
def RdDo7 (W : World) (Al : Option Addr) (ds : List Do7) : Prop :=
  ∀ k d, ds[k]? = some d → ∃ ad c0 c1 c2 c3 c4 c5 c6 c7 c8, Al = some ad ∧ DoCells c0 c1 c2 c3 c4 c5 c6 c7 c8 W d ∧ W.cell? (ad.add (k * 9)) = some c0 ∧
    W.cell? ⟨(ad.add (k * 9)).block, (ad.add (k * 9)).off + 1, none⟩ = some c1 ∧ W.cell? ⟨(ad.add (k * 9)).block, (ad.add (k * 9)).off + 2, none⟩ = some c2 ∧ W.cell? ⟨(ad.add (k * 9)).block, (ad.add (k * 9)).off + 3, none⟩ = some c3 ∧
    W.cell? ⟨(ad.add (k * 9)).block, (ad.add (k * 9)).off + 4, none⟩ = some c4 ∧ W.cell? ⟨(ad.add (k * 9)).block, (ad.add (k * 9)).off + 5, none⟩ = some c5 ∧ W.cell? ⟨(ad.add (k * 9)).block, (ad.add (k * 9)).off + 6, none⟩ = some c6 ∧
    W.cell? ⟨(ad.add (k * 9)).block, (ad.add (k * 9)).off + 7, none⟩ = some c7 ∧ W.cell? ⟨(ad.add (k * 9)).block, (ad.add (k * 9)).off + 8, none⟩ = some c8
theorem trod4 {H : Type} {enc : TypeId × Value → H} {P : Program} {w : World} {base : Nat} {spare : Nat → Bool} {held : Bool} {t : TypeId} {f0 f1 f2 f3 : Field} {fuel : Nat} {c0 c1 c2 c3 c4 c5 c6 c7 c8 : Value} {x : DataW H × List MemPlace} (ht : P.underlying t = some (.struct #[f0, f1, f2, f3]))
    (o0 : f0.offset = 0) (o1 : f1.offset = 1) (o2 : f2.offset = 2) (o3 : f3.offset = 3) (k0 : P.cellsOf f0.type = 1) (k1 : P.cellsOf f1.type = 1) (k2 : P.cellsOf f2.type = 1) (k3 : P.cellsOf f3.type = 6)
    (h : DataW.trod enc P w base spare held fuel t [c0, c1, c2, c3, c4, c5, c6, c7, c8] = some x) :
    ∃ y0 y1 y2 y3 n, DataW.trod enc P w base spare held n f0.type [c0] = some y0 ∧ DataW.trod enc P w base spare held n f1.type [c1] = some y1 ∧ DataW.trod enc P w base spare held n f2.type [c2] = some y2 ∧ DataW.trod enc P w base spare held n f3.type [c3, c4, c5, c6, c7, c8] = some y3 := by
  obtain ⟨xs, n, _, rfl, hl, hlen, hf⟩ := DataW.trod_struct ht h
  have hx : ∃ y0 y1 y2 y3, xs = [y0, y1, y2, y3] := by
    match xs, hlen with
    | [y0, y1, y2, y3], _ => exact ⟨y0, y1, y2, y3, rfl⟩
  obtain ⟨y0, y1, y2, y3, rfl⟩ := hx
  exact ⟨y0, y1, y2, y3, n, by simpa [o0, k0] using hf 0 f0 rfl, by simpa [o1, k1] using hf 1 f1 rfl, by simpa [o2, k2] using hf 2 f2 rfl, by simpa [o3, k3] using hf 3 f3 rfl⟩
theorem trod6 {H : Type} {enc : TypeId × Value → H} {P : Program} {w : World} {base : Nat} {spare : Nat → Bool} {held : Bool} {t : TypeId} {f0 f1 f2 f3 f4 f5 : Field} {fuel : Nat} {c0 c1 c2 c3 c4 c5 : Value} {x : DataW H × List MemPlace} (ht : P.underlying t = some (.struct #[f0, f1, f2, f3, f4, f5]))
    (o0 : f0.offset = 0) (o1 : f1.offset = 1) (o2 : f2.offset = 2) (o3 : f3.offset = 3) (o4 : f4.offset = 4) (o5 : f5.offset = 5) (k0 : P.cellsOf f0.type = 1) (k1 : P.cellsOf f1.type = 1) (k2 : P.cellsOf f2.type = 1) (k3 : P.cellsOf f3.type = 1) (k4 : P.cellsOf f4.type = 1) (k5 : P.cellsOf f5.type = 1)
    (h : DataW.trod enc P w base spare held fuel t [c0, c1, c2, c3, c4, c5] = some x) :
    ∃ y0 y1 y2 y3 y4 y5 n, DataW.trod enc P w base spare held n f0.type [c0] = some y0 ∧ DataW.trod enc P w base spare held n f1.type [c1] = some y1 ∧ DataW.trod enc P w base spare held n f2.type [c2] = some y2 ∧ DataW.trod enc P w base spare held n f3.type [c3] = some y3 ∧ DataW.trod enc P w base spare held n f4.type [c4] = some y4 ∧ DataW.trod enc P w base spare held n f5.type [c5] = some y5 := by
  obtain ⟨xs, n, _, rfl, hl, hlen, hf⟩ := DataW.trod_struct ht h
  have hx : ∃ y0 y1 y2 y3 y4 y5, xs = [y0, y1, y2, y3, y4, y5] := by
    match xs, hlen with
    | [y0, y1, y2, y3, y4, y5], _ => exact ⟨y0, y1, y2, y3, y4, y5, rfl⟩
  obtain ⟨y0, y1, y2, y3, y4, y5, rfl⟩ := hx
  exact ⟨y0, y1, y2, y3, y4, y5, n, by simpa [o0, k0] using hf 0 f0 rfl, by simpa [o1, k1] using hf 1 f1 rfl, by simpa [o2, k2] using hf 2 f2 rfl, by simpa [o3, k3] using hf 3 f3 rfl, by simpa [o4, k4] using hf 4 f4 rfl, by simpa [o5, k5] using hf 5 f5 rfl⟩
theorem do_cells7 {H : Type} {enc : TypeId × Value → H} {W : World} {base : Nat} {spare : Nat → Bool} {held : Bool} {fuel : Nat} {c0 c1 c2 c3 c4 c5 c6 c7 c8 : Value} {x : DataW H × List MemPlace}
    (h : DataW.trod enc Tryd.prog W base spare held fuel 56 [c0, c1, c2, c3, c4, c5, c6, c7, c8] = some x) : ∃ d : Do7, DoCells c0 c1 c2 c3 c4 c5 c6 c7 c8 W d := by
  obtain ⟨y0, y1, y2, y3, n, h0, h1, h2, h3⟩ := trod4 Tryd.underlying56 rfl rfl rfl rfl (by kernel_rfl) (by kernel_rfl) (by kernel_rfl) (by kernel_rfl) h
  obtain ⟨z0, z1, z2, z3, z4, z5, n2, g0, g1, g2, g3, g4, g5⟩ := trod6 Tryd.underlying54 rfl rfl rfl rfl rfl rfl (by kernel_rfl) (by kernel_rfl) (by kernel_rfl) (by kernel_rfl) (by kernel_rfl) (by kernel_rfl) h3
  obtain ⟨op, e0, _, _⟩ := DataW.trod_int Tryd.underlying3 h0
  obtain ⟨B, l, c, e1, hr, _, _⟩ := bytes_cell7 Tryd.underlying22 Tryd.underlying5 (by kernel_rfl) (h1.trans (by rfl))
  obtain ⟨r2, n2', c2', e2⟩ := slice_cell7 Tryd.underlying32 h2
  obtain ⟨o, e3, _, _⟩ := DataW.trod_int Tryd.underlying3 g0
  obtain ⟨m, e4, _, _⟩ := DataW.trod_int Tryd.underlying3 g1
  obtain ⟨s, e5, _, _⟩ := DataW.trod_string Tryd.underlying9 g2
  obtain ⟨t, e6, _, _⟩ := DataW.trod_string Tryd.underlying9 g3
  obtain ⟨r7, n7, c7', e7⟩ := slice_cell7 Tryd.underlying22 g4
  obtain ⟨r8, n8, c8', e8⟩ := slice_cell7 Tryd.underlying52 g5
  simp at e0 e3 e4 e5 e6
  exact ⟨(op, l), ⟨B, r2, r7, r8, c, n2', c2', n7, c7', n8, c8', o, m, s, t, e0, e1, hr, e2, e3, e4, e5, e6, e7, e8⟩⟩
def ArgDo7 (w : World) (v : Value) (ds : List Do7) : Prop := ∃ Al cl, v = .slice Al ds.length cl ∧ RdDo7 w Al ds
theorem open_do7 {H : Type} {enc : TypeId × Value → H} {W : World} {base base' : Nat} {spare : Nat → Bool} {held : Bool} {r : Reach} {v : Value} {d : DataW H} {ps : List MemPlace} {ts : List TypeId} {ds : List (DataW H)} {j : Nat} {t : TypeId}
    (hsz : (DataW.weightsEach Tryd.prog ts ds).all (· ≤ reachBytes) = true) (ht : ts[j]? = some t) (hd : ds[j]? = some d)
    (hv : Value.okWide Tryd.prog W r base' 51 v) (h : DataW.Trod enc Tryd.prog W base spare held 51 v d ps) (lt : ∀ x ∈ ps, x.block < W.heap.size) : ∃ ds, ArgDo7 W v ds := by
  obtain ⟨a, len, cap, rfl⟩ := okWide_slice Tryd.underlying51 hv
  obtain ⟨fuel, hf⟩ := h
  rcases Go.Deep.open_slice Tryd.underlying51 hf with ⟨hcs, _⟩ | ⟨x, l, c, m, n, D, Pl, hcs, _, hl, hm, hmm, hx, hV⟩
  · simp [Value.cells] at hcs
    obtain ⟨rfl, rfl, rfl⟩ := hcs
    exact ⟨[], none, 0, rfl, fun k d hk => by simp at hk⟩
  · simp [Value.cells] at hcs
    obtain ⟨rfl, rfl, rfl⟩ := hcs
    have hle : len ≤ m := by rw [hmm]; split <;> omega
    have hC : (Tryd.prog).cellsOf 56 = 9 := by kernel_rfl
    obtain ⟨f, hfp⟩ := Go.Deep.choose_lt (α := Do7) (n := len) (p := fun i d => ∃ c0 c1 c2 c3 c4 c5 c6 c7 c8, DoCells c0 c1 c2 c3 c4 c5 c6 c7 c8 W d ∧ W.cell? (x.add (i * 9)) = some c0 ∧
        W.cell? ⟨(x.add (i * 9)).block, (x.add (i * 9)).off + 1, none⟩ = some c1 ∧ W.cell? ⟨(x.add (i * 9)).block, (x.add (i * 9)).off + 2, none⟩ = some c2 ∧ W.cell? ⟨(x.add (i * 9)).block, (x.add (i * 9)).off + 3, none⟩ = some c3 ∧
        W.cell? ⟨(x.add (i * 9)).block, (x.add (i * 9)).off + 4, none⟩ = some c4 ∧ W.cell? ⟨(x.add (i * 9)).block, (x.add (i * 9)).off + 5, none⟩ = some c5 ∧ W.cell? ⟨(x.add (i * 9)).block, (x.add (i * 9)).off + 6, none⟩ = some c6 ∧
        W.cell? ⟨(x.add (i * 9)).block, (x.add (i * 9)).off + 7, none⟩ = some c7 ∧ W.cell? ⟨(x.add (i * 9)).block, (x.add (i * 9)).off + 8, none⟩ = some c8) (fun i hi => by
      obtain ⟨cs, h1, h2⟩ := hV i (by omega)
      rw [hC] at h1
      obtain ⟨_, hlen, hc⟩ := World.cells?_some h1
      obtain ⟨c0, c1, c2, c3, c4, c5, c6, c7, c8, rfl⟩ := list9 hlen
      obtain ⟨d, hd⟩ := do_cells7 h2
      refine ⟨d, c0, c1, c2, c3, c4, c5, c6, c7, c8, hd, ?_, ?_, ?_, ?_, ?_, ?_, ?_, ?_, ?_⟩
      · simpa [Addr.add] using hc 0 (by omega)
      · simpa [Addr.add] using hc 1 (by omega)
      · simpa [Addr.add] using hc 2 (by omega)
      · simpa [Addr.add] using hc 3 (by omega)
      · simpa [Addr.add] using hc 4 (by omega)
      · simpa [Addr.add] using hc 5 (by omega)
      · simpa [Addr.add] using hc 6 (by omega)
      · simpa [Addr.add] using hc 7 (by omega)
      · simpa [Addr.add] using hc 8 (by omega))
    have hlen : ((List.range len).map f).length = len := by simp
    refine ⟨(List.range len).map f, some x, cap, by rw [hlen], fun k d hk => ?_⟩
    have hkl : k < len := by have := (List.getElem?_eq_some_iff.1 hk).1; rwa [hlen] at this
    rw [List.getElem?_map, List.getElem?_range hkl] at hk
    have hk' : f k = d := Option.some.inj hk
    obtain ⟨c0, c1, c2, c3, c4, c5, c6, c7, c8, h1⟩ := hfp k hkl
    rw [hk'] at h1
    exact ⟨x, c0, c1, c2, c3, c4, c5, c6, c7, c8, rfl, h1⟩
end Go.Proofs.YtmlfeljhojmbbaaDoor

namespace Go.Proofs.YtmlfeljhojmbbaaDoor
open Go.RowKit Go.Maps Go.Sort
set_option linter.unusedSimpArgs false
set_option linter.unusedVariables false
set_option maxRecDepth 100000

theorem Lw.len9 {w0 w : World} {gl gd : Nat} {d : Ds} {cs : List (Nat × List (List UInt8))} {m : Nat} {rm : List (List UInt8)} {j : Nat} {dead : Bool} {N U : Nat} (h : Lw w0 w gl gd d cs m rm j dead N U) : (lsq cs m).length ≤ m := h.lgd.len
theorem Lw.mono9 {w0 w : World} {gl gd : Nat} {d : Ds} {cs : List (Nat × List (List UInt8))} {m : Nat} {rm : List (List UInt8)} {j : Nat} {dead : Bool} {N U N' U' : Nat} (h : Lw w0 w gl gd d cs m rm j dead N U) (hN : N ≤ N') (hU : U ≤ U') : Lw w0 w gl gd d cs m rm j dead N' U' := ⟨h.go, h.lgd, h.liv.mono hN hU, h.below⟩
set_option maxHeartbeats 8000000 in
theorem seglogAgain_run (Al : Option Addr) (cl : Nat) (ds : List Do7) (w : World) (hr : RdDo7 w Al ds) (ht : Tb w w.heap.size) :
    Calls Tryd.prog 6 #[.slice Al ds.length cl] w fun e w' => e = .returned (.bool true) ∧ Below w.heap.size w w' := by
  obtain ⟨NL, hNL⟩ : ∃ NL, NL = ds.length := ⟨_, rfl⟩
  rw [← hNL]
  have HNL := Shut.mk hNL
  have HR := Shut.mk hr
  have HT := Shut.mk ht
  clear hNL hr ht
  go_enter Tryd.func6, Tryd.ntmps6
  go_wp2_with fail
  refine (new_dd w).mono ?_
  rintro e w1 ⟨gd, F1, rfl, hD1, hb1, hF1⟩
  have HOP := Shut.mk (lw_open hD1 hb1 hF1 HT.out)
  clear hD1 hb1 hF1
  go_wp2_with fail
  refine HOP.out.mono ?_
  rintro e w2 ⟨gl, d, rfl, hlw, hfr, hfu⟩
  have HLW := Shut.mk hlw
  have HFR := Shut.mk (And.intro hfr hfu)
  clear hlw hfr hfu
  go_wp2_with fail
  go_loopw [31] (fun i wr => ∃ k : Nat, k ≤ NL ∧ k ≤ 41 ∧ i = .int .i64 (k : Int) ∧ Shut (∃ d cs m rm j, Lw w wr gl gd d cs m rm j false (2 + 3 * k) (48 + 8000 * k) ∧ look d.S freshN = none ∧ d.fuse = -1 ∧ m ≤ 1 + k)) (fun i _ => NL - (intOf i).toNat)
  case atStart => exact ⟨0, Nat.zero_le _, Nat.zero_le _, rfl, ⟨d, [], 1, [], 0, HLW.out, HFR.out.1, HFR.out.2, Nat.le_refl _⟩⟩
  case round =>
    obtain ⟨k, hk, hk41, rfl, HS⟩ := hrel
    by_cases hlt : k < NL
    · obtain ⟨dk, hdk⟩ : ∃ dk, ds[k]? = some dk := ⟨_, List.getElem?_eq_getElem (by rw [← HNL.out]; exact hlt)⟩
      obtain ⟨ad, c0, c1, c2, c3, c4, c5, c6, c7, c8, rfl, ⟨⟨B, r2, r7, r8, cB, n2, c2', n7, c7', n8, c8', o, nn, ss, tt, rfl, rfl, hrB, rfl, rfl, rfl, rfl, rfl, rfl, rfl⟩⟩, q0, q1, q2, q3, q4, q5, q6, q7, q8⟩ := HR.out k dk hdk
      obtain ⟨op, rec⟩ := dk
      dsimp only at q0 q1 hrB
      obtain ⟨d1, cs, m, rm, j, hlw, hfr, hfu, hm⟩ := HS.out
      have hbl := hlw.below
      have mv : ∀ {a : Addr} {v : Value}, w.cell? a = some v → wr.cell? a = some v := fun h => (hbl.cell (World.block_lt_of_cell? w _ h)).trans h
      have p0 := mv q0
      have p1 := mv q1
      have p2 := mv q2
      have p3 := mv q3
      have p4 := mv q4
      have p5 := mv q5
      have p6 := mv q6
      have p7 := mv q7
      have p8 := mv q8
      obtain ⟨RL, hRL⟩ : ∃ RL, RL = rec.length := ⟨_, rfl⟩
      have HRL := Shut.mk hRL
      rw [← hRL] at p1
      have HRB := Shut.mk (hrB.keep hbl)
      have HLW1 := Shut.mk hlw
      have HFR1 := Shut.mk (And.intro hfr hfu)
      have HM := Shut.mk hm
      have hkI : (k : Int) < (NL : Int) := by omega
      have hbx : Below wr.heap.size wr (wr.alloc (.cells #[.int .i64 op, .slice B RL cB, .slice r2 n2 c2', .int .i64 o, .int .i64 nn, .string ss, .string tt, .slice r7 n7 c7', .slice r8 n8 c8'] 56)) := (Below.refl _ wr).alloc (Nat.le_refl _) _
      have bx1 : (wr.alloc (.cells #[.int .i64 op, .slice B RL cB, .slice r2 n2 c2', .int .i64 o, .int .i64 nn, .string ss, .string tt, .slice r7 n7 c7', .slice r8 n8 c8'] 56)).cell? ⟨wr.heap.size, 1, none⟩ = some (.slice B RL cB) := (Blk.new wr _ _).cell 1
      have HBX := Shut.mk hbx
      clear q0 q1 q2 q3 q4 q5 q6 q7 q8 hrB hlw hfr hfu hm hbl mv hRL hbx hdk
      by_cases hk40 : k ≤ 40
      · clear HS
        have HLW2 := Shut.mk (HLW1.out.quiet HBX.out)
        by_cases hok : 1 ≤ RL ∧ RL ≤ 4000
        · obtain ⟨hok1, hok2⟩ := hok
          go_wp2_with fail
          obtain ⟨H4, hL4, hlt4⟩ := HLW2.out.go
          have HL4 := Shut.mk hL4
          have HAP := Shut.mk (append_calls hL4 hlt4 HLW2.out.lgd HFR1.out.1 HLW2.out.liv (by have := HM.out; omega) (by omega) (by omega) B RL cB rec (HRB.out.keep HBX.out) HRL.out.symm hok1 hok2)
          clear hL4 hlt4 p0 p1 p2 p3 p4 p5 p6 p7 p8 bx1
          refine HAP.out.mono ?_
          rintro e w5 ⟨E, d2, cs2, m2, rm2, j2, dead2, rfl, hto⟩
          have hlw5 := (HLW2.out.step HL4.out hto.stp hto.lgd hto.liv).mono9 (N' := 2 + 3 * (k + 1)) (U' := 48 + 8000 * (k + 1)) (by omega) (by omega)
          rcases hto.res with ⟨rfl, rfl, hfr2, hfl2, hcase⟩ | ⟨_, _, h, _⟩
          · have HS2 : Shut (∃ d cs m rm j, Lw w w5 gl gd d cs m rm j false (2 + 3 * (k + 1)) (48 + 8000 * (k + 1)) ∧ look d.S freshN = none ∧ d.fuse = -1 ∧ m ≤ 1 + (k + 1)) := ⟨d2, _, _, _, _, hlw5, hfr2, hto.f HFR1.out.2, by have := HM.out; have := hto.num; omega⟩
            clear hlw5 hfr2 hfl2 hcase hto
            go_wp2_with fail
            go_roundw
            case rel => exact ⟨k + 1, by omega, by omega, by go_num, HS2⟩
            case measure => first | (simp [intOf]; done) | (simp [intOf]; omega)
          · exact absurd HFR1.out.2 h
        · have hbad : RL < 1 ∨ 4000 < RL := by omega
          go_wp2_with fail
          obtain ⟨H4, hL4, hlt4⟩ := HLW2.out.go
          have HAP := Shut.mk (append_not hL4 B RL cB hbad)
          clear hL4 hlt4 p0 p1 p2 p3 p4 p5 p6 p7 p8 bx1 hok
          refine HAP.out.mono ?_
          rintro e w5 ⟨rfl, rfl⟩
          have HS2 : Shut (∃ d cs m rm j, Lw w (wr.alloc (.cells #[.int .i64 op, .slice B RL cB, .slice r2 n2 c2', .int .i64 o, .int .i64 nn, .string ss, .string tt, .slice r7 n7 c7', .slice r8 n8 c8'] 56)) gl gd d cs m rm j false (2 + 3 * (k + 1)) (48 + 8000 * (k + 1)) ∧ look d.S freshN = none ∧ d.fuse = -1 ∧ m ≤ 1 + (k + 1)) := ⟨d1, cs, m, rm, j, HLW2.out.mono9 (by omega) (by omega), HFR1.out.1, HFR1.out.2, by have := HM.out; omega⟩
          go_wp2_with fail
          go_roundw
          case rel => exact ⟨k + 1, by omega, by omega, by go_num, HS2⟩
          case measure => first | (simp [intOf]; done) | (simp [intOf]; omega)
      · have hk411 : 40 < k := by omega
        have HLW2 : Shut (Lw w (wr.alloc (.cells #[.int .i64 op, .slice B RL cB, .slice r2 n2 c2', .int .i64 o, .int .i64 nn, .string ss, .string tt, .slice r7 n7 c7', .slice r8 n8 c8'] 56)) gl gd d1 cs m rm j false 200 400000) := ⟨(HLW1.out.quiet HBX.out).mono9 (by omega) (by omega)⟩
        have hm4 : m ≤ 42 := by have := HM.out; omega
        clear HS
        go_wp2_with fail
        clear p0 p1 p2 p3 p4 p5 p6 p7 p8 bx1 hk40 hk411 hkI hlt hk41 hk
        generalize hW3 : wr.alloc (.cells #[.int .i64 op, .slice B RL cB, .slice r2 n2 c2', .int .i64 o, .int .i64 nn, .string ss, .string tt, .slice r7 n7 c7', .slice r8 n8 c8'] 56) = W3 at HLW2 ⊢
        have hsz3 : W3.heap.size = wr.heap.size + 1 := by rw [← hW3]; simp
        rw [← hsz3]
        clear hsz3
        clear hW3
        have hbk : Below W3.heap.size W3 (W3.alloc (.cells #[.int .i64 30, .int .i64 50] 3)) := (Below.refl _ W3).alloc (Nat.le_refl _) _
        have HTL := Shut.mk (lw_tails (HLW2.out.quiet hbk) (by omega) (by omega) (some ⟨W3.heap.size, 0, none⟩) 2 2 [30, 50] (rd_new W3 #[.int .i64 30, .int .i64 50] 3) rfl (by omega) 1 (by omega))
        have HBK := Shut.mk hbk
        clear hbk
        refine HTL.out.mono ?_
        rintro e w4 ⟨Bt, ct, tl, rfl, hRt, hlt4, hbt, hb4⟩
        have HLW4 := Shut.mk ((HLW2.out.quiet HBK.out).quiet hb4)
        have HCR := Shut.mk (lw_crash HLW4.out (by omega) Bt ct tl hRt hlt4 hbt)
        clear hRt hbt hb4 hlt4
        go_wp2_with fail
        refine HCR.out.mono ?_
        rintro e w5 ⟨rfl, F5, d5, i5, B5, hD5, hF5, hb5, hc5, _, _, hop5, hrd5⟩
        have HOP5 := Shut.mk (opb_open hD5 hF5 hb5 HT.out hc5 (by omega) hop5 (by omega))
        clear hD5 hF5 hb5 hc5 hop5 hrd5
        go_wp2_with fail
        refine HOP5.out.mono ?_
        rintro e w6 ⟨ga, v6, d6, rfl, _, ⟨H6, hL6, hlt6, hvn6, hrec6⟩, hlw6, hfu6, hfr6, _⟩
        generalize rdL (B5.getD []) = r6 at hrec6 hlw6
        have HL6 := Shut.mk hL6
        have HLT6 := Shut.mk hlt6
        have HVN6 := Shut.mk hvn6
        have HREC6 := Shut.mk hrec6
        have HLW6 := Shut.mk hlw6
        have HFR6 := Shut.mk (And.intro hfr6 hfu6)
        obtain ⟨F6, hD6, _⟩ := hL6.disk
        have HLS6 := Shut.mk (dd_ls hD6 (by have := hlw6.liv.n; omega))
        clear hL6 hlt6 hvn6 hrec6 hlw6 hfr6 hfu6 hD6
        go_wp2_with fail
        refine HLS6.out.mono ?_
        rintro e w7 ⟨v7, rfl, ho7, hb7, hn7⟩
        have HO7 := Shut.mk ho7
        have HB7 := Shut.mk hb7
        have HN7 := Shut.mk hn7
        have HAG := Shut.mk (lw_again2 (HLW6.out.quiet hb7) (HL6.out.quiet hb7) HFR6.out.2 (by omega) (by omega))
        clear ho7 hb7 hn7
        go_wp2_with fail
        refine HAG.out.mono ?_
        rintro e w8 ⟨gb, v8, d8, rfl, hrec8, hlwa, hlwb, hfu8, hfr8, hopn8, hk8⟩
        -- what stands at the end
        have hx8 := HREC6.out.quiet HB7.out
        have hx8' := hx8.kept hk8 (fun g hg => HVN6.out g hg) (fun x hx _ => hx.2)
        have ho8 := hk8.own HO7.out (fun g hg hx => by have h1 := HN7.out g hg; have h2 := HLT6.out g hx; omega)
        have hls8 := opn_names HLW6.out.lgd (lsq_ne cs m) hopn8 HFR6.out.1 HL6.out.keys hlwa.keys
        rw [hls8] at ho8
        have hby : bytesN d8 (lsq cs m) = (frs (flat cs r6)).length := hlwa.lgd.bytes
        obtain ⟨Ha, hLa, _⟩ := hlwa.go
        obtain ⟨Hb, hLb, _⟩ := hlwb.go
        have hlen8 := hlwa.len9
        have hle8 := hlwa.lgd.le
        obtain ⟨F8, hD8, _⟩ := hLa.disk
        have HSA := Shut.mk (fun (wx : World) (hb : Below w8.heap.size w8 wx) => segments_calls (hLa.quiet hb) (fun n hn => by have := hle8 n hn; omega) (by omega))
        have HSB := Shut.mk (fun (wx : World) (hb : Below w8.heap.size w8 wx) => segments_calls (hLb.quiet hb) (fun n hn => by have := hle8 n hn; omega) (by omega))
        have HBA := Shut.mk (fun (wx : World) (hb : Below w8.heap.size w8 wx) => bytes_calls (hLa.quiet hb) (fun n hn => by have := hle8 n hn; omega) (by omega))
        have HBB := Shut.mk (fun (wx : World) (hb : Below w8.heap.size w8 wx) => bytes_calls (hLb.quiet hb) (fun n hn => by have := hle8 n hn; omega) (by omega))
        have HLS := Shut.mk (fun (wx : World) (hb : Below w8.heap.size w8 wx) => dd_ls (Dsk.below hD8 hb) (by have := hlwa.liv.n; omega))
        obtain ⟨vs6, hxo, hxr, _⟩ := hx8'
        obtain ⟨vs8, hyo, hyr, _⟩ := hrec8
        have hfl : (flat cs r6).length ≤ 1000000000 := by
          have h1 := hxo.form.choose_spec.choose_spec
          have h2 := hlwa.lgd.bytes
          have h3 : 41 * (flat cs r6).length ≤ (frs (flat cs r6)).length := frs_many (fun r hr => by
            rcases List.mem_append.1 hr with h | h
            · obtain ⟨x, hx, hr2⟩ := List.mem_flatMap.1 h
              exact hlwa.lgd.okc x hx r hr2
            · exact hlwa.lgd.okm r h)
          have h4 : bytesN d8 (lsq cs m) ≤ 1048576 * (lsq cs m).length := bytes_le (fun n => hLa.cont_le n) _
          rw [h2] at h4
          have : 1048576 * (lsq cs m).length ≤ 1048576 * 400 := Nat.mul_le_mul_left _ (by omega)
          omega
        obtain ⟨A6, c6, rfl, hxd, _⟩ := hxo.form
        obtain ⟨A8, c8, rfl, hyd, _⟩ := hyo.form
        obtain ⟨A7, c7, rfl, _⟩ := ho8.form
        have HXR := Shut.mk (And.intro hxd hxr)
        have HYR := Shut.mk (And.intro hyd hyr)
        have HO8 := Shut.mk ho8
        have HLWA := Shut.mk hlwa
        have hlq : 1 ≤ (lsq cs m).length := List.length_pos_iff.2 (lsq_ne cs m)
        obtain ⟨LQ, hLQ⟩ : ∃ LQ, LQ = (lsq cs m).length := ⟨_, rfl⟩
        obtain ⟨FL, hFL⟩ : ∃ FL, FL = (flat cs r6).length := ⟨_, rfl⟩
        obtain ⟨LS, hLS⟩ : ∃ LS, LS = (lsD d8).length := ⟨_, rfl⟩
        have HLQ := Shut.mk hLQ
        have HFL := Shut.mk hFL
        have HLSZ := Shut.mk hLS
        rw [← hLQ] at hlq HSA HSB
        rw [← hFL] at hfl
        rw [← hLS]
        rw [← hFL]
        have hlqI : (0 : Int) < (LQ : Int) := by omega
        clear hx8 ho8 hls8 hby hLa hLb hlen8 hle8 hD8 hxo hxr hyo hyr hxd hyd hlwa hlwb hfu8 hfr8 hopn8 hk8 hLQ hFL hLS
        go_wp2_with fail
        refine (HSB.out w8 (Below.refl _ _)).mono ?_
        rintro e w9 ⟨v9, rfl, ho9, hb9, hn9⟩
        obtain ⟨A9, c9, rfl, _⟩ := ho9.form
        have HB9 := Shut.mk hb9
        clear ho9 hb9 hn9
        go_wp2_with fail
        refine (same_calls A6 A8 FL FL c6 c8 vs6 vs8 (flat cs r6) (flat cs r6) _ _ w9 (rd_kept HXR.out.1 (Kb.of_below HB9.out []) (fun a ha _ hx => by cases hx)) (HXR.out.2.keep HB9.out) (rd_kept HYR.out.1 (Kb.of_below HB9.out []) (fun a ha _ hx => by cases hx)) (HYR.out.2.keep HB9.out) HFL.out.symm HFL.out.symm hfl hfl).mono ?_
        rintro e w' ⟨rfl, rfl⟩
        rw [decide_eq_true (rfl : flat cs r6 = flat cs r6)]
        go_wp2_with fail
        refine (HSA.out w9 HB9.out).mono ?_
        rintro e w10 ⟨v10, rfl, ho10, hb10, hn10⟩
        have HO10 := Shut.mk ho10
        have HB10 := Shut.mk (HB9.out.trans (hb10.mono HB9.out.size))
        clear ho10 hb10 hn10
        go_wp2_with fail
        refine (HSB.out w10 HB10.out).mono ?_
        rintro e w11 ⟨v11, rfl, ho11, hb11, hn11⟩
        have HEQ := Shut.mk (equal_names v10 v11 ((lsq cs m).map seg) w11 ((HO10.out.below hb11 (fun g hg => HO10.out.block_lt hg)).cast (by rw [List.length_map, HLQ.out]) rfl) (ho11.cast (by rw [List.length_map, HLQ.out]) rfl))
        have HB11 := Shut.mk (HB10.out.trans (hb11.mono HB10.out.size))
        clear ho11 hb11 hn11
        go_wp2_with fail
        refine HEQ.out.mono ?_
        rintro e w12 ⟨rfl, hb12⟩
        have HB12 := Shut.mk (HB11.out.trans (hb12.mono HB11.out.size))
        clear hb12
        go_wp2_with fail
        refine (HLS.out w12 HB12.out).mono ?_
        rintro e w13 ⟨v13, rfl, ho13, hb13, hn13⟩
        have HB13 := Shut.mk (HB12.out.trans (hb13.mono HB12.out.size))
        have HO8' := HO8.out
        have HEQ2 := Shut.mk (equal_names _ v13 (lsD d8) w13 (HO8'.below HB13.out (fun g hg => HO8'.block_lt hg)) ho13)
        rw [← HLSZ.out] at HEQ2
        clear ho13 hb13 hn13 HO8'
        go_wp2_with fail
        refine HEQ2.out.mono ?_
        rintro e w14 ⟨rfl, hb14⟩
        have HB14 := Shut.mk (HB13.out.trans (hb14.mono HB13.out.size))
        clear hb14
        go_wp2_with fail
        refine (HBA.out w14 HB14.out).mono ?_
        rintro e w15 ⟨rfl, hb15⟩
        have HB15 := Shut.mk (HB14.out.trans (hb15.mono HB14.out.size))
        clear hb15
        go_wp2_with fail
        refine (HBB.out w15 HB15.out).mono ?_
        rintro e w16 ⟨rfl, hb16⟩
        have HB16 := Shut.mk (HB15.out.trans (hb16.mono HB15.out.size))
        clear hb16
        go_wp2_with fail
        go_ret
        refine ⟨?_, HLWA.out.below.trans (HB16.out.mono HLWA.out.below.size)⟩
        simp
    · obtain rfl : k = NL := by omega
      obtain ⟨d1, cs, m, rm, j, hlw, hfr, hfu, hm⟩ := HS.out
      have HLW2 : Shut (Lw w wr gl gd d1 cs m rm j false 200 400000) := ⟨hlw.mono9 (by omega) (by omega)⟩
      have HFR1 := Shut.mk (And.intro hfr hfu)
      have hm4 : m ≤ 42 := by omega
      clear hlw hfr hfu hm HS
      go_wp2_with fail
      generalize hW3 : wr = W3 at HLW2 ⊢
      clear hW3
      have hbk : Below W3.heap.size W3 (W3.alloc (.cells #[.int .i64 30, .int .i64 50] 3)) := (Below.refl _ W3).alloc (Nat.le_refl _) _
      have HTL := Shut.mk (lw_tails (HLW2.out.quiet hbk) (by omega) (by omega) (some ⟨W3.heap.size, 0, none⟩) 2 2 [30, 50] (rd_new W3 #[.int .i64 30, .int .i64 50] 3) rfl (by omega) 1 (by omega))
      have HBK := Shut.mk hbk
      clear hbk
      refine HTL.out.mono ?_
      rintro e w4 ⟨Bt, ct, tl, rfl, hRt, hlt4, hbt, hb4⟩
      have HLW4 := Shut.mk ((HLW2.out.quiet HBK.out).quiet hb4)
      have HCR := Shut.mk (lw_crash HLW4.out (by omega) Bt ct tl hRt hlt4 hbt)
      clear hRt hbt hb4 hlt4
      go_wp2_with fail
      refine HCR.out.mono ?_
      rintro e w5 ⟨rfl, F5, d5, i5, B5, hD5, hF5, hb5, hc5, _, _, hop5, hrd5⟩
      have HOP5 := Shut.mk (opb_open hD5 hF5 hb5 HT.out hc5 (by omega) hop5 (by omega))
      clear hD5 hF5 hb5 hc5 hop5 hrd5
      go_wp2_with fail
      refine HOP5.out.mono ?_
      rintro e w6 ⟨ga, v6, d6, rfl, _, ⟨H6, hL6, hlt6, hvn6, hrec6⟩, hlw6, hfu6, hfr6, _⟩
      generalize rdL (B5.getD []) = r6 at hrec6 hlw6
      have HL6 := Shut.mk hL6
      have HLT6 := Shut.mk hlt6
      have HVN6 := Shut.mk hvn6
      have HREC6 := Shut.mk hrec6
      have HLW6 := Shut.mk hlw6
      have HFR6 := Shut.mk (And.intro hfr6 hfu6)
      obtain ⟨F6, hD6, _⟩ := hL6.disk
      have HLS6 := Shut.mk (dd_ls hD6 (by have := hlw6.liv.n; omega))
      clear hL6 hlt6 hvn6 hrec6 hlw6 hfr6 hfu6 hD6
      go_wp2_with fail
      refine HLS6.out.mono ?_
      rintro e w7 ⟨v7, rfl, ho7, hb7, hn7⟩
      have HO7 := Shut.mk ho7
      have HB7 := Shut.mk hb7
      have HN7 := Shut.mk hn7
      have HAG := Shut.mk (lw_again2 (HLW6.out.quiet hb7) (HL6.out.quiet hb7) HFR6.out.2 (by omega) (by omega))
      clear ho7 hb7 hn7
      go_wp2_with fail
      refine HAG.out.mono ?_
      rintro e w8 ⟨gb, v8, d8, rfl, hrec8, hlwa, hlwb, hfu8, hfr8, hopn8, hk8⟩
      -- what stands at the end
      have hx8 := HREC6.out.quiet HB7.out
      have hx8' := hx8.kept hk8 (fun g hg => HVN6.out g hg) (fun x hx _ => hx.2)
      have ho8 := hk8.own HO7.out (fun g hg hx => by have h1 := HN7.out g hg; have h2 := HLT6.out g hx; omega)
      have hls8 := opn_names HLW6.out.lgd (lsq_ne cs m) hopn8 HFR6.out.1 HL6.out.keys hlwa.keys
      rw [hls8] at ho8
      have hby : bytesN d8 (lsq cs m) = (frs (flat cs r6)).length := hlwa.lgd.bytes
      obtain ⟨Ha, hLa, _⟩ := hlwa.go
      obtain ⟨Hb, hLb, _⟩ := hlwb.go
      have hlen8 := hlwa.len9
      have hle8 := hlwa.lgd.le
      obtain ⟨F8, hD8, _⟩ := hLa.disk
      have HSA := Shut.mk (fun (wx : World) (hb : Below w8.heap.size w8 wx) => segments_calls (hLa.quiet hb) (fun n hn => by have := hle8 n hn; omega) (by omega))
      have HSB := Shut.mk (fun (wx : World) (hb : Below w8.heap.size w8 wx) => segments_calls (hLb.quiet hb) (fun n hn => by have := hle8 n hn; omega) (by omega))
      have HBA := Shut.mk (fun (wx : World) (hb : Below w8.heap.size w8 wx) => bytes_calls (hLa.quiet hb) (fun n hn => by have := hle8 n hn; omega) (by omega))
      have HBB := Shut.mk (fun (wx : World) (hb : Below w8.heap.size w8 wx) => bytes_calls (hLb.quiet hb) (fun n hn => by have := hle8 n hn; omega) (by omega))
      have HLS := Shut.mk (fun (wx : World) (hb : Below w8.heap.size w8 wx) => dd_ls (Dsk.below hD8 hb) (by have := hlwa.liv.n; omega))
      obtain ⟨vs6, hxo, hxr, _⟩ := hx8'
      obtain ⟨vs8, hyo, hyr, _⟩ := hrec8
      have hfl : (flat cs r6).length ≤ 1000000000 := by
        have h1 := hxo.form.choose_spec.choose_spec
        have h2 := hlwa.lgd.bytes
        have h3 : 41 * (flat cs r6).length ≤ (frs (flat cs r6)).length := frs_many (fun r hr => by
          rcases List.mem_append.1 hr with h | h
          · obtain ⟨x, hx, hr2⟩ := List.mem_flatMap.1 h
            exact hlwa.lgd.okc x hx r hr2
          · exact hlwa.lgd.okm r h)
        have h4 : bytesN d8 (lsq cs m) ≤ 1048576 * (lsq cs m).length := bytes_le (fun n => hLa.cont_le n) _
        rw [h2] at h4
        have : 1048576 * (lsq cs m).length ≤ 1048576 * 400 := Nat.mul_le_mul_left _ (by omega)
        omega
      obtain ⟨A6, c6, rfl, hxd, _⟩ := hxo.form
      obtain ⟨A8, c8, rfl, hyd, _⟩ := hyo.form
      obtain ⟨A7, c7, rfl, _⟩ := ho8.form
      have HXR := Shut.mk (And.intro hxd hxr)
      have HYR := Shut.mk (And.intro hyd hyr)
      have HO8 := Shut.mk ho8
      have HLWA := Shut.mk hlwa
      have hlq : 1 ≤ (lsq cs m).length := List.length_pos_iff.2 (lsq_ne cs m)
      obtain ⟨LQ, hLQ⟩ : ∃ LQ, LQ = (lsq cs m).length := ⟨_, rfl⟩
      obtain ⟨FL, hFL⟩ : ∃ FL, FL = (flat cs r6).length := ⟨_, rfl⟩
      obtain ⟨LS, hLS⟩ : ∃ LS, LS = (lsD d8).length := ⟨_, rfl⟩
      have HLQ := Shut.mk hLQ
      have HFL := Shut.mk hFL
      have HLSZ := Shut.mk hLS
      rw [← hLQ] at hlq HSA HSB
      rw [← hFL] at hfl
      rw [← hLS]
      rw [← hFL]
      have hlqI : (0 : Int) < (LQ : Int) := by omega
      clear hx8 ho8 hls8 hby hLa hLb hlen8 hle8 hD8 hxo hxr hyo hyr hxd hyd hlwa hlwb hfu8 hfr8 hopn8 hk8 hLQ hFL hLS
      go_wp2_with fail
      refine (HSB.out w8 (Below.refl _ _)).mono ?_
      rintro e w9 ⟨v9, rfl, ho9, hb9, hn9⟩
      obtain ⟨A9, c9, rfl, _⟩ := ho9.form
      have HB9 := Shut.mk hb9
      clear ho9 hb9 hn9
      go_wp2_with fail
      refine (same_calls A6 A8 FL FL c6 c8 vs6 vs8 (flat cs r6) (flat cs r6) _ _ w9 (rd_kept HXR.out.1 (Kb.of_below HB9.out []) (fun a ha _ hx => by cases hx)) (HXR.out.2.keep HB9.out) (rd_kept HYR.out.1 (Kb.of_below HB9.out []) (fun a ha _ hx => by cases hx)) (HYR.out.2.keep HB9.out) HFL.out.symm HFL.out.symm hfl hfl).mono ?_
      rintro e w' ⟨rfl, rfl⟩
      rw [decide_eq_true (rfl : flat cs r6 = flat cs r6)]
      go_wp2_with fail
      refine (HSA.out w9 HB9.out).mono ?_
      rintro e w10 ⟨v10, rfl, ho10, hb10, hn10⟩
      have HO10 := Shut.mk ho10
      have HB10 := Shut.mk (HB9.out.trans (hb10.mono HB9.out.size))
      clear ho10 hb10 hn10
      go_wp2_with fail
      refine (HSB.out w10 HB10.out).mono ?_
      rintro e w11 ⟨v11, rfl, ho11, hb11, hn11⟩
      have HEQ := Shut.mk (equal_names v10 v11 ((lsq cs m).map seg) w11 ((HO10.out.below hb11 (fun g hg => HO10.out.block_lt hg)).cast (by rw [List.length_map, HLQ.out]) rfl) (ho11.cast (by rw [List.length_map, HLQ.out]) rfl))
      have HB11 := Shut.mk (HB10.out.trans (hb11.mono HB10.out.size))
      clear ho11 hb11 hn11
      go_wp2_with fail
      refine HEQ.out.mono ?_
      rintro e w12 ⟨rfl, hb12⟩
      have HB12 := Shut.mk (HB11.out.trans (hb12.mono HB11.out.size))
      clear hb12
      go_wp2_with fail
      refine (HLS.out w12 HB12.out).mono ?_
      rintro e w13 ⟨v13, rfl, ho13, hb13, hn13⟩
      have HB13 := Shut.mk (HB12.out.trans (hb13.mono HB12.out.size))
      have HO8' := HO8.out
      have HEQ2 := Shut.mk (equal_names _ v13 (lsD d8) w13 (HO8'.below HB13.out (fun g hg => HO8'.block_lt hg)) ho13)
      rw [← HLSZ.out] at HEQ2
      clear ho13 hb13 hn13 HO8'
      go_wp2_with fail
      refine HEQ2.out.mono ?_
      rintro e w14 ⟨rfl, hb14⟩
      have HB14 := Shut.mk (HB13.out.trans (hb14.mono HB13.out.size))
      clear hb14
      go_wp2_with fail
      refine (HBA.out w14 HB14.out).mono ?_
      rintro e w15 ⟨rfl, hb15⟩
      have HB15 := Shut.mk (HB14.out.trans (hb15.mono HB14.out.size))
      clear hb15
      go_wp2_with fail
      refine (HBB.out w15 HB15.out).mono ?_
      rintro e w16 ⟨rfl, hb16⟩
      have HB16 := Shut.mk (HB15.out.trans (hb16.mono HB15.out.size))
      clear hb16
      go_wp2_with fail
      go_ret
      refine ⟨?_, HLWA.out.below.trans (HB16.out.mono HLWA.out.below.size)⟩
      simp
theorem seglogAgain_walk (v : Value) (ds : List Do7) (w : World) (hx : ArgDo7 w v ds) (ht : Tb w w.heap.size) :
    Calls Tryd.prog 6 #[v] w fun e w' => e = .returned (.bool true) ∧ Below w.heap.size w w' := by
  obtain ⟨Al, cl, rfl, hr⟩ := hx
  exact seglogAgain_run Al cl ds w hr ht
end Go.Proofs.YtmlfeljhojmbbaaDoor
