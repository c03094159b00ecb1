/- Opening a law's argument that is a list of slices of bytes. -/
import Derived.Test.YtjmaimpfplojpaaFull
import Derived.Deep.Slices
namespace Go.Proofs.Ytjmaimpfplojpaa
open Go.ChangeShapes Go.WideShapes Go.ChangeAt Go.RowKit
set_option linter.unusedVariables false
set_option maxRecDepth 100000

theorem bytes_cellS {H : Type} {enc : TypeId × Value → H} {P : Program} {W : World} {base : Nat} {spare : Nat → Bool} {held : Bool} {t e : TypeId} {v : Value} {d : DataW H} {ps : List MemPlace} {n : Nat}
    (hu : P.underlying t = some (.slice e)) (he : P.underlying e = some (.int .u8)) (hc : P.cellsOf e = 1) (h : DataW.trod enc P W base spare held n t [v] = some (d, ps)) :
    ∃ (A : Option Addr) (l : List UInt8) (c : Nat), v = .slice A l.length c ∧ RdB W A l ∧ l.length ≤ c ∧ c ≤ maxLen := by
  rcases open_ints hu he hc h with ⟨hcs, _⟩ | ⟨x, l, c, zs, hcs, _, hl, hm, hz, hx, hcell, hwz⟩
  · obtain rfl : v = .slice none 0 0 := by simpa using hcs
    exact ⟨none, [], 0, rfl, fun k hk => by simp at hk, Nat.le_refl _, by simp [maxLen]⟩
  · obtain rfl : v = .slice (some x) l c := by simpa using hcs
    have hl2 : l ≤ zs.length := by
      rw [hz]
      split
      · exact hl
      · exact Nat.le_refl _
    obtain ⟨bs, hbl, hbr⟩ := rdB_ints hl2 hcell hwz
    subst hbl
    exact ⟨some x, bs, c, rfl, hbr, hl, hm⟩
def ArgS (w : World) (v : Value) (ls : List (List UInt8)) : Prop :=
  ∃ Al cl, v = .slice Al ls.length cl ∧ RdC w Al ls ∧ ls.length ≤ cl ∧ cl ≤ maxLen
theorem open_rowsS {H : Type} {enc : TypeId × Value → H} {W : World} {base base' : Nat} {spare : Nat → Bool} {held : Bool} {r : Reach} {v : Value} {d : DataW H} {ps : List MemPlace} {ts : List TypeId} {ds : List (DataW H)} {j : Nat} {t : TypeId}
    (hsz : (DataW.weightsEach Try.prog ts ds).all (· ≤ reachBytes) = true) (ht : ts[j]? = some t) (hd : ds[j]? = some d)
    (hv : Value.okWide Try.prog W r base' 22 v) (h : DataW.Trod enc Try.prog W base spare held 22 v d ps) (lt : ∀ x ∈ ps, x.block < W.heap.size) : ∃ ls, ArgS W v ls := by
  obtain ⟨a, len, cap, rfl⟩ := okWide_slice Try.underlying22 hv
  obtain ⟨fuel, hf⟩ := h
  rcases Go.Deep.open_slice1 Try.underlying22 (by kernel_rfl) hf with ⟨hcs, _⟩ | ⟨x, l, c, m, n, V, D, Pl, hcs, _, hl, hm, hmm, hx, hV⟩
  · simp [Value.cells] at hcs
    obtain ⟨rfl, rfl, rfl⟩ := hcs
    exact ⟨[], none, 0, rfl, fun k hk => by simp at hk, Nat.le_refl _, by simp [maxLen]⟩
  · simp [Value.cells] at hcs
    obtain ⟨rfl, rfl, rfl⟩ := hcs
    have hle : len ≤ m := by rw [hmm]; split <;> omega
    obtain ⟨f, hfp⟩ := Go.Deep.choose_lt (α := List UInt8) (n := len) (p := fun i l => ∃ A c, V i = .slice A l.length c ∧ RdB W A l ∧ l.length ≤ c ∧ c ≤ maxLen) (fun i hi => by
      obtain ⟨A, l, c, h1, h2, h3, h4⟩ := bytes_cellS Try.underlying28 Try.underlying5 (by kernel_rfl) (hV i (by omega)).2
      exact ⟨l, A, c, h1, h2, h3, h4⟩)
    have hlen : ((List.range len).map f).length = len := by simp
    refine ⟨(List.range len).map f, some x, cap, by rw [hlen], fun k hk => ?_, by rw [hlen]; exact hl, hm⟩
    rw [hlen] at hk
    obtain ⟨A, c', h1, h2, h3, h4⟩ := hfp k hk
    have e : ((List.range len).map f).getD k [] = f k := by simp [List.getD_eq_getElem?_getD, hk]
    rw [e]
    exact ⟨x, A, c', rfl, by rw [← h1]; exact (hV k (by omega)).1, h2, h3, h4⟩
theorem filesFull_walk (a0 : Int) (v : Value) (ls : List (List UInt8)) (w : World) (h0 : -9223372036854775808 ≤ a0) (h0' : a0 ≤ 9223372036854775807) (hx : ArgS w v ls) :
    Calls Try.prog 3 #[.int .i64 a0, v] w fun e w' => e = .returned (.bool true) ∧ Below w.heap.size w w' := by
  obtain ⟨Al, cl, rfl, h1, h2, h3⟩ := hx
  exact filesFull_run a0 Al ls cl w h1 h2 h3
end Go.Proofs.Ytjmaimpfplojpaa
