/- Opening a law's argument that is a call of a net; the law NetNobody over it. -/
import Derived.Test.YtdnbdmffaoimgaaNobody
import Derived.Lib.SmallJoins
namespace Go.Proofs.Ytdnbdmffaoimgaa
open Go.ChangeShapes Go.WideShapes Go.ChangeAt Go.RowKit Go.Joins
set_option linter.unusedVariables false
set_option maxRecDepth 100000

def ArgDo (v : Value) (x : Int × Int × Option Addr × Nat × Nat) : Prop := v = .agg #[.int .i64 x.1, .int .i64 x.2.1, .slice x.2.2.1 x.2.2.2.1 x.2.2.2.2]
theorem open_do {H : Type} {enc : TypeId × Value → H} {W : World} {base base' : Nat} {spare : Nat → Bool} {held : Bool} {r : Reach} {v : Value} {d : DataW H} {ps : List MemPlace} {ts : List TypeId} {ds : List (DataW H)} {j : Nat} {t : TypeId}
    (hsz : (DataW.weightsEach Try.prog ts ds).all (· ≤ reachBytes) = true) (ht : ts[j]? = some t) (hd : ds[j]? = some d)
    (hv : Value.okWide Try.prog W r base' 43 v) (h : DataW.Trod enc Try.prog W base spare held 43 v d ps) (lt : ∀ x ∈ ps, x.block < W.heap.size) : ∃ x, ArgDo v x := by
  obtain ⟨c0, c1, c2, y0, y1, y2, m, rfl, _, _, hy0, hy1, hy2⟩ := open_agg3 Try.underlying43 (by kernel_rfl) (by kernel_rfl) hv h
  obtain ⟨x, e0, _, _⟩ := DataW.trod_int Try.underlying3 hy0
  obtain ⟨y, e1, _, _⟩ := DataW.trod_int Try.underlying3 hy1
  simp at e0 e1
  subst e0 e1
  rcases open_ints Try.underlying29 Try.underlying5 (by kernel_rfl) hy2 with ⟨hcs, _⟩ | ⟨a, l, c, zs, hcs, _⟩
  · obtain rfl : c2 = .slice none 0 0 := by simpa using hcs
    exact ⟨(x, y, none, 0, 0), rfl⟩
  · obtain rfl : c2 = .slice (some a) l c := by simpa using hcs
    exact ⟨(x, y, some a, l, c), rfl⟩
theorem netNobody_walk (v : Value) (x : Int × Int × Option Addr × Nat × Nat) (w : World) (hx : ArgDo v x) :
    Calls Try.prog 5 #[v] w fun e w' => e = .returned (.bool true) ∧ Below w.heap.size w w' := by
  unfold ArgDo at hx
  subst hx
  exact netNobody_run _ _ _ _ _ w
end Go.Proofs.Ytdnbdmffaoimgaa
