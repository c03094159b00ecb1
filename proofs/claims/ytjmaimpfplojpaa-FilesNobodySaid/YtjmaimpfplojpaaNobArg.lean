/- Opening a law's argument that is a step; the law FilesNobody over it. -/
import Derived.Test.YtjmaimpfplojpaaNobW
namespace Go.Proofs.Ytjmaimpfplojpaa
open Go.ChangeShapes Go.WideShapes Go.ChangeAt Go.RowKit Go.Joins
set_option linter.unusedVariables false
set_option maxRecDepth 100000

def ArgStep (v : Value) (x : List Value) : Prop := v = .agg x.toArray ∧ ∃ c0 c1 c2 c3 c4 c5, x = [c0, c1, c2, c3, c4, c5] ∧ StepCs c0 c1 c2 c3 c4 c5
theorem open_step {H : Type} {enc : TypeId × Value → H} {W : World} {base base' : Nat} {spare : Nat → Bool} {held : Bool} {r : Reach} {v : Value} {d : DataW H} {ps : List MemPlace} {ts : List TypeId} {ds : List (DataW H)} {j : Nat} {t : TypeId}
    (hsz : (DataW.weightsEach Try.prog ts ds).all (· ≤ reachBytes) = true) (ht : ts[j]? = some t) (hd : ds[j]? = some d)
    (hv : Value.okWide Try.prog W r base' 49 v) (h : DataW.Trod enc Try.prog W base spare held 49 v d ps) (lt : ∀ x ∈ ps, x.block < W.heap.size) : ∃ x, ArgStep v x := by
  obtain ⟨cs, rfl, hsz⟩ := okWide_struct Try.underlying49 hv
  have hC : (Try.prog).cellsOf 49 = 6 := by kernel_rfl
  obtain ⟨l⟩ := cs
  obtain ⟨c0, c1, c2, c3, c4, c5, rfl⟩ := list6 (show l.length = 6 from hsz.trans hC)
  obtain ⟨fuel, hf⟩ := h
  exact ⟨_, rfl, c0, c1, c2, c3, c4, c5, rfl, step_cells (by simpa [Value.cells] using hf)⟩
theorem filesNobody_walk (v : Value) (x : List Value) (w : World) (hx : ArgStep v x) :
    Calls Try.prog 8 #[v] w fun e w' => e = .returned (.bool true) ∧ Below w.heap.size w w' := by
  obtain ⟨rfl, c0, c1, c2, c3, c4, c5, rfl, a, b, s, t, B, m, c, D, tm, tc, rfl, rfl, rfl, rfl, rfl, rfl⟩ := hx
  exact filesNobody_run a b s t B m c D tm tc w
end Go.Proofs.Ytjmaimpfplojpaa
