/- A world for the witness of the rows that list five variables: each holds what its initialiser lays. -/
import Derived.Test.YtmlfeljhojmbbaaGreatDoorRows
import Derived.Test.YtmlfeljhojmbbaaGreatDoorProg
import Derived.Lib.LaidTab
import Derived.Stop.LaidErr
namespace Go.Proofs.YtmlfeljhojmbbaaGreatDoor
set_option linter.unusedVariables false

def layCells : DataW Unit → Array Value
  | .agg l => (l.map fun x => match x with | .lit (.int k n) => Value.int k n | _ => undef).toArray
  | _ => #[]
def lay (cs : Array Value) : Obj → Obj
  | .cells _ t frozen => .cells cs t frozen
  | o => o
noncomputable def laidWorld (os : Os) : World :=
  { World.holding Tryz.prog os ⟨#[], #[], []⟩ with heap := (((((World.holding Tryz.prog os ⟨#[], #[], []⟩).heap.modify 3 (lay (layCells Rows.laid_math_bits_deBruijn32tab))).modify 4 (lay (layCells Rows.laid_math_bits_deBruijn64tab))).modify 1 (lay (layCells Rows.laid_cicerone_digest_k))).modify 0 (lay (layCells Rows.laid_cicerone_digest_begin))).modify 2 (lay (layCells Rows.laid_internal_strconv_uint64pow10)) }
end Go.Proofs.YtmlfeljhojmbbaaGreatDoor
