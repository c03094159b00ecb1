/- A world for the witness of the rows that list five variables: each holds what its initialiser lays. What the rows' list of five laid variables gives a log: its tables. -/
import Derived.Test.YtmlfeljhojmbbaaGreatDoorRows
import Derived.Test.YtmlfeljhojmbbaaGreatDoorProg
import Derived.Lib.LaidTab
import Derived.Stop.LaidErr
import Derived.Test.YtmlfeljhojmbbaaGreatDoorLgP
import Derived.Test.YtmlfeljhojmbbaaGreatDoorDig
namespace Go.Proofs.YtmlfeljhojmbbaaGreatDoor
set_option linter.unusedVariables false

def layCells : DataW Unit → Array Value
  | .agg l => (l.map fun x => match x with | .lit (.int k n) => Value.int k n | _ => undef).toArray
  | _ => #[]
def lay (cs : Array Value) : Obj → Obj
  | .cells _ t frozen => .cells cs t frozen
  | o => o
noncomputable def laidWorld (os : Os) : World :=
  { World.holding Tryz.prog os ⟨#[], #[], []⟩ with heap := (((((World.holding Tryz.prog os ⟨#[], #[], []⟩).heap.modify 3 (lay (layCells Rows.laid_math_bits_deBruijn32tab))).modify 4 (lay (layCells Rows.laid_math_bits_deBruijn64tab))).modify 1 (lay (layCells Rows.laid_cicerone_digest_k))).modify 0 (lay (layCells Rows.laid_cicerone_digest_begin))).modify 2 (lay (layCells Rows.laid_internal_strconv_uint64pow10)) }
end Go.Proofs.YtmlfeljhojmbbaaGreatDoor

namespace Go.Proofs.YtmlfeljhojmbbaaGreatDoor
open Go.RowKit
set_option linter.unusedVariables false

def ints7 (l : List (BitVec 32)) : List Int := l.map fun x => (x.toNat : Int)
theorem ints7_at (l : List (BitVec 32)) (j : Nat) (h : j < l.length) : (ints7 l).getD j 0 = ((l.getD j 0).toNat : Int) := by
  simp [ints7, List.getD_eq_getElem?_getD, List.getElem?_eq_getElem h]
theorem rd_tab7 {P : Program} {W : World} {name : String} {g : Nat} {l : List (BitVec 32)} (h : Lib.TabIs P W name .u32 (ints7 l)) (hg : P.globalNamed name = some g) : Rd W (some ⟨g, 0, none⟩) (wds l) := by
  intro _
  refine ⟨_, rfl, fun j u hu => ?_⟩
  have hj : j < l.length := by
    have := (List.getElem?_eq_some_iff.1 hu).1
    rwa [wds_length] at this
  rw [add_head, h.cell hg j (by simpa [ints7] using hj), ints7_at l j hj, ← wds_get l j hj, hu]
theorem tables {W : World} (h : laidMetH Tryz.prog [("math/bits.deBruijn32tab", Rows.laid_math_bits_deBruijn32tab), ("math/bits.deBruijn64tab", Rows.laid_math_bits_deBruijn64tab), ("cicerone/digest.k", Rows.laid_cicerone_digest_k), ("cicerone/digest.begin", Rows.laid_cicerone_digest_begin), ("internal/strconv.uint64pow10", Rows.laid_internal_strconv_uint64pow10)] W) : Tb W W.heap.size := by
  have h0 : laidMet Tryz.prog [("math/bits.deBruijn32tab", Rows.laid_math_bits_deBruijn32tab), ("math/bits.deBruijn64tab", Rows.laid_math_bits_deBruijn64tab), ("cicerone/digest.k", Rows.laid_cicerone_digest_k), ("cicerone/digest.begin", Rows.laid_cicerone_digest_begin), ("internal/strconv.uint64pow10", Rows.laid_internal_strconv_uint64pow10)] W := h
  have e1 : (Rows.laid_cicerone_digest_k : DataW Unit) = Lib.tabData .u32 (ints7 Psha.ks) := by kernel_rfl
  have e2 : (Rows.laid_cicerone_digest_begin : DataW Unit) = Lib.tabData .u32 (ints7 Psha.iv.list) := by kernel_rfl
  have e3 : (Rows.laid_internal_strconv_uint64pow10 : DataW Unit) = Lib.tabData .u64 Lib.pow10Tab := by kernel_rfl
  rw [e1, e2, e3] at h0
  have g1 : Tryz.prog.globalNamed "cicerone/digest.k" = some 1 := by kernel_rfl
  have g2 : Tryz.prog.globalNamed "cicerone/digest.begin" = some 0 := by kernel_rfl
  have g3 : Tryz.prog.globalNamed "internal/strconv.uint64pow10" = some 2 := by kernel_rfl
  have t1 : (Tryz.prog.globals[1]?).map (·.type) = some 144 := by kernel_rfl
  have t2 : (Tryz.prog.globals[0]?).map (·.type) = some 138 := by kernel_rfl
  have t3 : (Tryz.prog.globals[2]?).map (·.type) = some 174 := by kernel_rfl
  have c1 : Tryz.prog.cellsOf 127 = 1 := by kernel_rfl
  have c2 : Tryz.prog.cellsOf 144 = 64 := by kernel_rfl
  have c3 : Tryz.prog.cellsOf 138 = 8 := by kernel_rfl
  have c4 : Tryz.prog.cellsOf 125 = 1 := by kernel_rfl
  have c5 : Tryz.prog.cellsOf 174 = 20 := by kernel_rfl
  have hk := Lib.tabIs_of_head g1 t1 Tryz.underlying144 Tryz.underlying127 c1 c2 h0.tail.tail
  have hb := Lib.tabIs_of_head g2 t2 Tryz.underlying138 Tryz.underlying127 c1 c3 h0.tail.tail.tail
  have hp := Lib.tabIs_of_head g3 t3 Tryz.underlying174 Tryz.underlying125 c4 c5 h0.tail.tail.tail.tail
  exact ⟨rd_tab7 hk g1, rd_tab7 hb g2, hp, World.block_lt_of_cell? W _ (hk.cell g1 0 (by simp [ints7, Psha.ks])), World.block_lt_of_cell? W _ (hb.cell g2 0 (by simp [ints7, Psha.St.list])), World.block_lt_of_cell? W _ (hp.cell g3 0 (by simp [Lib.pow10Tab_length]))⟩
end Go.Proofs.YtmlfeljhojmbbaaGreatDoor
