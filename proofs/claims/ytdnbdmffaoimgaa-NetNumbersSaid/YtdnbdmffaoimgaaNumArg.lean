/- Opening a law's argument that is a slice of numbers; the law NetNumbers over it. -/
import Derived.Test.YtdnbdmffaoimgaaNumbers
namespace Go.Proofs.Ytdnbdmffaoimgaa
open Go.ChangeShapes Go.WideShapes Go.ChangeAt Go.RowKit
set_option linter.unusedVariables false
set_option maxRecDepth 100000

def ArgI (w : World) (v : Value) (l : List Int) : Prop := ∃ A c, v = .slice A l.length c ∧ RdI w A l ∧ l.length ≤ c ∧ c ≤ maxLen
theorem open_nums {H : Type} {enc : TypeId × Value → H} {W : World} {base base' : Nat} {spare : Nat → Bool} {held : Bool} {r : Reach} {v : Value} {d : DataW H} {ps : List MemPlace} {ts : List TypeId} {ds : List (DataW H)} {j : Nat} {t : TypeId}
    (hsz : (DataW.weightsEach Try.prog ts ds).all (· ≤ reachBytes) = true) (ht : ts[j]? = some t) (hd : ds[j]? = some d)
    (hv : Value.okWide Try.prog W r base' 38 v) (h : DataW.Trod enc Try.prog W base spare held 38 v d ps) (lt : ∀ x ∈ ps, x.block < W.heap.size) : ∃ l, ArgI W v l := by
  obtain ⟨a, len, cap, rfl⟩ := okWide_slice Try.underlying38 hv
  obtain ⟨fuel, hf⟩ := h
  rcases open_ints Try.underlying38 Try.underlying3 (by kernel_rfl) hf with ⟨hcs, _⟩ | ⟨x, l, c, zs, hcs, _, hl, hm, hz, hx, hcell, hwz⟩
  · simp [Value.cells] at hcs
    obtain ⟨rfl, rfl, rfl⟩ := hcs
    exact ⟨[], none, 0, rfl, fun k hk => by simp at hk, Nat.le_refl _, by simp [maxLen]⟩
  · simp [Value.cells] at hcs
    obtain ⟨rfl, rfl, rfl⟩ := hcs
    have hl2 : len ≤ zs.length := by
      rw [hz]
      split
      · exact hl
      · exact Nat.le_refl _
    have hlen : (zs.take len).length = len := by rw [List.length_take]; omega
    refine ⟨zs.take len, some x, cap, by rw [hlen], fun k hk => ⟨x, rfl, ?_⟩, by rw [hlen]; exact hl, hm⟩
    rw [hlen] at hk
    rw [hcell k (by omega)]
    congr 2
    rw [List.getD_eq_getElem?_getD, List.getD_eq_getElem?_getD, List.getElem?_take, if_pos hk]
theorem netNumbers_walk (v : Value) (l : List Int) (tk : Int) (w : World) (hx : ArgI w v l) (t0 : 0 ≤ tk) (t1 : tk ≤ 18446744073709551615) :
    Calls Try.prog 4 #[v, .int .u64 tk] w fun e w' => e = .returned (.bool true) ∧ Below w.heap.size w w' := by
  obtain ⟨A, c, rfl, h1, h2, h3⟩ := hx
  exact netNumbers_run A l c tk w h1 h2 h3 t0 t1
end Go.Proofs.Ytdnbdmffaoimgaa
