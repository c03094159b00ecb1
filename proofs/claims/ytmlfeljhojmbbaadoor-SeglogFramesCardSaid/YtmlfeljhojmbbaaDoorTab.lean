/- What the row's list of laid variables gives: the words of the rounds, the first words. -/
import Derived.Test.YtmlfeljhojmbbaaDoorDig
import Derived.Test.YtmlfeljhojmbbaaDoorRows
import Derived.Lib.LaidTab
import Derived.Stop.LaidErr
namespace Go.Proofs.YtmlfeljhojmbbaaDoor
open Go.RowKit
set_option linter.unusedVariables false

def ints (l : List (BitVec 32)) : List Int := l.map fun x => (x.toNat : Int)
theorem ints_at (l : List (BitVec 32)) (j : Nat) (h : j < l.length) : (ints l).getD j 0 = ((l.getD j 0).toNat : Int) := by
  simp [ints, List.getD_eq_getElem?_getD, List.getElem?_eq_getElem h]
theorem rd_tab {P : Program} {W : World} {name : String} {g : Nat} {l : List (BitVec 32)} (h : Lib.TabIs P W name .u32 (ints l)) (hg : P.globalNamed name = some g) : Rd W (some ⟨g, 0, none⟩) (wds l) := by
  intro _
  refine ⟨_, rfl, fun j u hu => ?_⟩
  have hj : j < l.length := by
    have := (List.getElem?_eq_some_iff.1 hu).1
    rwa [wds_length] at this
  rw [add_head, h.cell hg j (by simpa [ints] using hj), ints_at l j hj, ← wds_get l j hj, hu]
theorem tables {W : World} (h : laidMetH Tryd.prog [("cicerone/digest.k", Rows.laid_cicerone_digest_k), ("cicerone/digest.begin", Rows.laid_cicerone_digest_begin)] W) :
    Rd W (some ⟨1, 0, none⟩) (wds Psha.ks) ∧ Rd W (some ⟨0, 0, none⟩) (wds Psha.iv.list) := by
  have h0 : laidMet Tryd.prog [("cicerone/digest.k", Rows.laid_cicerone_digest_k), ("cicerone/digest.begin", Rows.laid_cicerone_digest_begin)] W := h
  have e1 : (Rows.laid_cicerone_digest_k : DataW Unit) = Lib.tabData .u32 (ints Psha.ks) := by kernel_rfl
  have e2 : (Rows.laid_cicerone_digest_begin : DataW Unit) = Lib.tabData .u32 (ints Psha.iv.list) := by kernel_rfl
  rw [e1, e2] at h0
  have g1 : Tryd.prog.globalNamed "cicerone/digest.k" = some 1 := by kernel_rfl
  have g2 : Tryd.prog.globalNamed "cicerone/digest.begin" = some 0 := by kernel_rfl
  have t1 : (Tryd.prog.globals[1]?).map (·.type) = some 119 := by kernel_rfl
  have t2 : (Tryd.prog.globals[0]?).map (·.type) = some 106 := by kernel_rfl
  have c1 : Tryd.prog.cellsOf 66 = 1 := by kernel_rfl
  have c2 : Tryd.prog.cellsOf 119 = 64 := by kernel_rfl
  have c3 : Tryd.prog.cellsOf 106 = 8 := by kernel_rfl
  exact ⟨rd_tab (Lib.tabIs_of_head g1 t1 Tryd.underlying119 Tryd.underlying66 c1 c2 h0) g1,
    rd_tab (Lib.tabIs_of_head g2 t2 Tryd.underlying106 Tryd.underlying66 c1 c3 h0.tail) g2⟩

def lay (cs : Array Value) : Obj → Obj
  | .cells _ t frozen => .cells cs t frozen
  | o => o
/-- a world for the witness: the settled one, the two variables holding what their initialisers lay -/
noncomputable def laidWorld (os : Os) : World :=
  { World.holding Tryd.prog os ⟨#[], #[], []⟩ with heap := ((World.holding Tryd.prog os ⟨#[], #[], []⟩).heap.modify 1 (lay (wds Psha.ks).toArray)).modify 0 (lay (wds Psha.iv.list).toArray) }
end Go.Proofs.YtmlfeljhojmbbaaDoor
