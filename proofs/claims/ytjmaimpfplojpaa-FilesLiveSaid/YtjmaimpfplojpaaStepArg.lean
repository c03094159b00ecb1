/- Opening a law's argument that is a step, or a list of steps; the law FilesFuse over it. -/
import Derived.Test.YtjmaimpfplojpaaFuseW
import Derived.Lib.SmallJoins
namespace Go.Proofs.Ytjmaimpfplojpaa
open Go.ChangeShapes Go.WideShapes Go.ChangeAt Go.RowKit Go.Joins Go.Deep
set_option linter.unusedVariables false
set_option maxRecDepth 100000

section
variable {H : Type} {enc : TypeId × Value → H} {P : Program} {w : World} {base : Nat} {spare : Nat → Bool} {held : Bool}
theorem list6 {α : Type} {cs : List α} (h : cs.length = 6) : ∃ c0 c1 c2 c3 c4 c5, cs = [c0, c1, c2, c3, c4, c5] := by
  match cs, h with
  | [c0, c1, c2, c3, c4, c5], _ => exact ⟨c0, c1, c2, c3, c4, c5, rfl⟩
theorem trod_struct6 {t : TypeId} {f0 f1 f2 f3 f4 f5 : Field} {fuel : Nat} {c0 c1 c2 c3 c4 c5 : Value} {x : DataW H × List MemPlace} (ht : P.underlying t = some (.struct #[f0, f1, f2, f3, f4, f5])) (hone : oneCellFields P #[f0, f1, f2, f3, f4, f5] = true)
    (h : DataW.trod enc P w base spare held fuel t [c0, c1, c2, c3, c4, c5] = some x) :
    ∃ y0 y1 y2 y3 y4 y5 n, DataW.trod enc P w base spare held n f0.type [c0] = some y0 ∧ DataW.trod enc P w base spare held n f1.type [c1] = some y1 ∧ DataW.trod enc P w base spare held n f2.type [c2] = some y2 ∧
      DataW.trod enc P w base spare held n f3.type [c3] = some y3 ∧ DataW.trod enc P w base spare held n f4.type [c4] = some y4 ∧ DataW.trod enc P w base spare held n f5.type [c5] = some y5 ∧ x.1 = .agg [y0.1, y1.1, y2.1, y3.1, y4.1, y5.1] := by
  obtain ⟨xs, n, _, rfl, hl, hlen, hf⟩ := DataW.trod_struct ht h
  obtain ⟨o0, k0⟩ := hone_of hone 0 f0 rfl
  obtain ⟨o1, k1⟩ := hone_of hone 1 f1 rfl
  obtain ⟨o2, k2⟩ := hone_of hone 2 f2 rfl
  obtain ⟨o3, k3⟩ := hone_of hone 3 f3 rfl
  obtain ⟨o4, k4⟩ := hone_of hone 4 f4 rfl
  obtain ⟨o5, k5⟩ := hone_of hone 5 f5 rfl
  obtain ⟨y0, y1, y2, y3, y4, y5, rfl⟩ := list6 hlen
  exact ⟨y0, y1, y2, y3, y4, y5, n, by simpa [o0, k0] using hf 0 f0 rfl, by simpa [o1, k1] using hf 1 f1 rfl, by simpa [o2, k2] using hf 2 f2 rfl, by simpa [o3, k3] using hf 3 f3 rfl, by simpa [o4, k4] using hf 4 f4 rfl, by simpa [o5, k5] using hf 5 f5 rfl, rfl⟩
end
/-- the cells of a step -/
def StepCs (c0 c1 c2 c3 c4 c5 : Value) : Prop := ∃ (x y : Int) (s t : ByteArray) (B : Option Addr) (m c : Nat) (D : Option Addr) (tm tc : Nat), c0 = .int .i64 x ∧ c1 = .int .i64 y ∧ c2 = .string s ∧ c3 = .string t ∧ c4 = .slice B m c ∧ c5 = .slice D tm tc
theorem step_cells {H : Type} {enc : TypeId × Value → H} {W : World} {base : Nat} {spare : Nat → Bool} {held : Bool} {fuel : Nat} {c0 c1 c2 c3 c4 c5 : Value} {x : DataW H × List MemPlace}
    (h : DataW.trod enc Try.prog W base spare held fuel 49 [c0, c1, c2, c3, c4, c5] = some x) : StepCs c0 c1 c2 c3 c4 c5 := by
  obtain ⟨y0, y1, y2, y3, y4, y5, n, h0, h1, h2, h3, h4, h5, _⟩ := trod_struct6 Try.underlying49 (by kernel_rfl) h
  obtain ⟨a, e0, _, _⟩ := DataW.trod_int Try.underlying3 h0
  obtain ⟨b, e1, _, _⟩ := DataW.trod_int Try.underlying3 h1
  obtain ⟨s, e2, _, _⟩ := DataW.trod_string Try.underlying9 h2
  obtain ⟨t, e3, _, _⟩ := DataW.trod_string Try.underlying9 h3
  obtain ⟨B, m, c, e4⟩ := slice_form Try.underlying28 h4
  obtain ⟨D, tm, tc, e5⟩ := slice_form Try.underlying44 h5
  simp at e0 e1 e2 e3 e4 e5
  exact ⟨a, b, s, t, B, m, c, D, tm, tc, e0, e1, e2, e3, e4, e5⟩
def ArgP (w : World) (v : Value) (nl : Nat) : Prop := ∃ A cl, v = .slice A nl cl ∧ RdP w A nl ∧ nl ≤ cl ∧ cl ≤ maxLen
theorem open_steps {H : Type} {enc : TypeId × Value → H} {W : World} {base base' : Nat} {spare : Nat → Bool} {held : Bool} {r : Reach} {v : Value} {d : DataW H} {ps : List MemPlace} {ts : List TypeId} {ds : List (DataW H)} {j : Nat} {t : TypeId}
    (hsz : (DataW.weightsEach Try.prog ts ds).all (· ≤ reachBytes) = true) (ht : ts[j]? = some t) (hd : ds[j]? = some d)
    (hv : Value.okWide Try.prog W r base' 47 v) (h : DataW.Trod enc Try.prog W base spare held 47 v d ps) (lt : ∀ x ∈ ps, x.block < W.heap.size) : ∃ nl, ArgP W v nl := by
  obtain ⟨a, len, cap, rfl⟩ := okWide_slice Try.underlying47 hv
  obtain ⟨fuel, hf⟩ := h
  rcases Go.Deep.open_slice Try.underlying47 hf with ⟨hcs, _⟩ | ⟨x, l, c, m, n, D, Pl, hcs, _, hl, hm, hmm, hx, hV⟩
  · simp [Value.cells] at hcs
    obtain ⟨rfl, rfl, rfl⟩ := hcs
    exact ⟨0, none, 0, rfl, fun k hk => by omega, Nat.le_refl _, by simp [maxLen]⟩
  · simp [Value.cells] at hcs
    obtain ⟨rfl, rfl, rfl⟩ := hcs
    have hle : len ≤ m := by rw [hmm]; split <;> omega
    refine ⟨len, some x, cap, rfl, fun k hk => ?_, hl, hm⟩
    obtain ⟨cs, h1, h2⟩ := hV k (by omega)
    have hC : (Try.prog).cellsOf 49 = 6 := by kernel_rfl
    rw [hC] at h1
    obtain ⟨_, hlen, hc⟩ := World.cells?_some h1
    obtain ⟨c0, c1, c2, c3, c4, c5, rfl⟩ := list6 hlen
    obtain ⟨a, b, s, t, B, bm, bc, T, tm, tc, rfl, rfl, rfl, rfl, rfl, rfl⟩ := step_cells h2
    refine ⟨x, a, b, s, t, B, bm, bc, T, tm, tc, rfl, ?_, ?_, ?_, ?_, ?_, ?_⟩
    · simpa [Addr.add] using hc 0 (by omega)
    · simpa [Addr.add] using hc 1 (by omega)
    · simpa [Addr.add] using hc 2 (by omega)
    · simpa [Addr.add] using hc 3 (by omega)
    · simpa [Addr.add] using hc 4 (by omega)
    · simpa [Addr.add] using hc 5 (by omega)
theorem filesFuse_walk (a0 : Int) (v : Value) (nl : Nat) (w : World) (h0 : -9223372036854775808 ≤ a0) (h0' : a0 ≤ 9223372036854775807) (hx : ArgP w v nl) :
    Calls Try.prog 6 #[.int .i64 a0, v] w fun e w' => e = .returned (.bool true) ∧ Below w.heap.size w w' := by
  obtain ⟨A, cl, rfl, h1, h2, h3⟩ := hx
  exact filesFuse_run a0 A nl cl w h1 h2 h3
end Go.Proofs.Ytjmaimpfplojpaa
