/-
  No cell of these rows narrows 'for every input' (looked for: loops, veiled, ifaces, maps, wideKeys, modest, calm, conditions, laid).
  DERIVED. THE GIVEN ROWS OF THIS SEAT. 4 by the template 'for every input the law returns true; each argument reads behind the call as it read before'; 0 by the template 'total and deterministic' (their statements: YtdnbdmffaoimgaaTotals.lean).
  GIVEN WITH THE SEED: the statements are not yours to turn. If you find one false, say at which input.
  Laid BY PROGRAM, IN A SANDBOX (cutbox-rows.mjs): the forced cells as the released guide's own fill.sh prints them over the translation 67ffc97345c89ad7… (all of the seat's roots in one cut). By AI agents, Wed Nov 11 2026. No macro, syntax, notation, axiom, sorry.
-/
import Derived.Test.YtdnbdmffaoimgaaChecked
import GoSem.Claim
import GoSem.ClaimJoined
import GoSem.ClaimMapViews
import Derived.JoinedTies
import Derived.KernelRfl
namespace Go.Proofs.Ytdnbdmffaoimgaa
/- THE CELL 'sum', in the pinned program and in every row, IS THE sha256 OF THE DUMP (.gsa) THAT YtdnbdmffaoimgaaProg.lean LOADS. Nothing in Lean hashes anything: it is a label: what it is worth is what the hold of that sum in a sandbox is worth. -/
noncomputable def Try.pinned : Pinned := { name := "ytdnbdmffaoimgaa", sum := "67ffc97345c89ad7d52b525343d4d8fe095f553343774bea33c6ef5cb73d2311", checked := Try.checked }
namespace Rows
def none {H : Type} : Left H := { results := [], args := [] }

/-- 'ciceronelaw15.NetCarries': WHATEVER THE INPUT: true; the input reads as it did. -/
def netCarriesSpec : ChangeSpec := { name := "netCarries", fn := fun _ => fun
  | [d1, d2, d3] => { results := [.lit (.bool true)], args := [d1, d2, d3] }
  | _ => none }
def netCarriesRow : OpenClaim := { program := "ytdnbdmffaoimgaa", sum := "67ffc97345c89ad7d52b525343d4d8fe095f553343774bea33c6ef5cb73d2311", func := "cicerone/ciceronelaw15.NetCarries", spec := "netCarries", apart := false }
def NetCarriesSaid : Prop := netCarriesRow.holds Try.pinned (OpenSpec.ofChange netCarriesSpec)

/-- ITS FALSE NEIGHBOUR: 'it returns false'. Refute it at one input. -/
def netCarriesWrong : ChangeSpec := { name := "netCarries", fn := fun _ => fun
  | [d1, d2, d3] => { results := [.lit (.bool false)], args := [d1, d2, d3] }
  | _ => none }
def NetCarriesWrongFalsely : Prop := netCarriesRow.holds Try.pinned (OpenSpec.ofChange netCarriesWrong)

/-- 'ciceronelaw15.NetNumbers': WHATEVER THE INPUT: true; the input reads as it did. -/
def netNumbersSpec : ChangeSpec := { name := "netNumbers", fn := fun _ => fun
  | [d1, d2] => { results := [.lit (.bool true)], args := [d1, d2] }
  | _ => none }
def netNumbersRow : OpenClaim := { program := "ytdnbdmffaoimgaa", sum := "67ffc97345c89ad7d52b525343d4d8fe095f553343774bea33c6ef5cb73d2311", func := "cicerone/ciceronelaw15.NetNumbers", spec := "netNumbers", unfollowed := true, recurses := true, apart := false }
def NetNumbersSaid : Prop := netNumbersRow.holds Try.pinned (OpenSpec.ofChange netNumbersSpec)

/-- ITS FALSE NEIGHBOUR: 'it returns false'. Refute it at one input. -/
def netNumbersWrong : ChangeSpec := { name := "netNumbers", fn := fun _ => fun
  | [d1, d2] => { results := [.lit (.bool false)], args := [d1, d2] }
  | _ => none }
def NetNumbersWrongFalsely : Prop := netNumbersRow.holds Try.pinned (OpenSpec.ofChange netNumbersWrong)

/-- 'ciceronelaw15.NetNobody': WHATEVER THE INPUT: true; the input reads as it did. -/
def netNobodySpec : ChangeSpec := { name := "netNobody", fn := fun _ => fun
  | [d] => { results := [.lit (.bool true)], args := [d] }
  | _ => none }
def netNobodyRow : OpenClaim := { program := "ytdnbdmffaoimgaa", sum := "67ffc97345c89ad7d52b525343d4d8fe095f553343774bea33c6ef5cb73d2311", func := "cicerone/ciceronelaw15.NetNobody", spec := "netNobody", unfollowed := true, recurses := true, apart := false }
def NetNobodySaid : Prop := netNobodyRow.holds Try.pinned (OpenSpec.ofChange netNobodySpec)

/-- ITS FALSE NEIGHBOUR: 'it returns false'. Refute it at one input. -/
def netNobodyWrong : ChangeSpec := { name := "netNobody", fn := fun _ => fun
  | [d] => { results := [.lit (.bool false)], args := [d] }
  | _ => none }
def NetNobodyWrongFalsely : Prop := netNobodyRow.holds Try.pinned (OpenSpec.ofChange netNobodyWrong)

/-- 'ciceronelaw15.NetLives': WHATEVER THE INPUT: true; the input reads as it did. -/
def netLivesSpec : ChangeSpec := { name := "netLives", fn := fun _ => fun
  | [d] => { results := [.lit (.bool true)], args := [d] }
  | _ => none }
def netLivesRow : OpenClaim := { program := "ytdnbdmffaoimgaa", sum := "67ffc97345c89ad7d52b525343d4d8fe095f553343774bea33c6ef5cb73d2311", func := "cicerone/ciceronelaw15.NetLives", spec := "netLives", unfollowed := true, recurses := true, apart := false }
def NetLivesSaid : Prop := netLivesRow.holds Try.pinned (OpenSpec.ofChange netLivesSpec)

/-- ITS FALSE NEIGHBOUR: 'it returns false'. Refute it at one input. -/
def netLivesWrong : ChangeSpec := { name := "netLives", fn := fun _ => fun
  | [d] => { results := [.lit (.bool false)], args := [d] }
  | _ => none }
def NetLivesWrongFalsely : Prop := netLivesRow.holds Try.pinned (OpenSpec.ofChange netLivesWrong)

/- THE SECOND FORM. 'bulk': how many values and letters a reading holds, each counted each time it is reached (what is shared counts as often as it is met; a slice's spare places count too). A statement '..UptoSaid' is the law's where the arguments, and the package variables that the reading takes, are together of bulk at most 1048576: NARROWER than '..Said'. Prove '..Said' where nothing that the law and all that it calls make is longer than what came in: it says more and counts as full. Else prove '..UptoSaid'. A law counts once. -/
mutual
def uptoBulk {H : Type} : DataW H → Nat
  | .lit (.string bytes) => bytes.length + 1
  | .lit _ => 1
  | .nil => 1
  | .ptr d => uptoBulk d + 1
  | .slice elems spare => uptoBulkAll elems + uptoBulkAll spare + 1
  | .agg parts => uptoBulkAll parts + 1
  | .iface _ d => uptoBulk d + 1
  | .map entries => uptoBulkEntries entries + 1
  | .held _ => 1
def uptoBulkAll {H : Type} : List (DataW H) → Nat
  | [] => 0
  | d :: r => uptoBulk d + uptoBulkAll r
def uptoBulkEntries {H : Type} : List (Lit × DataW H) → Nat
  | [] => 0
  | x :: r => uptoBulkEntry x + uptoBulkEntries r
def uptoBulkEntry {H : Type} : Lit × DataW H → Nat
  | (.string bytes, d) => bytes.length + uptoBulk d + 1
  | (_, d) => uptoBulk d + 1
 end
def uptoSmall : (H : Type) → List (DataW H) → Bool := fun _ ds => decide (uptoBulkAll ds ≤ 1048576)
def OpenSpec.upto (s : _root_.Go.ChangeSpec) : _root_.Go.OpenSpec := { _root_.Go.OpenSpec.ofChange s with cond := some uptoSmall }

/-- 'ciceronelaw15.NetCarries', WHERE WHAT IT READS IS OF BULK AT MOST 1048576: true; the input reads as it did. -/
def netCarriesUptoRow : OpenClaim := { program := "ytdnbdmffaoimgaa", sum := "67ffc97345c89ad7d52b525343d4d8fe095f553343774bea33c6ef5cb73d2311", func := "cicerone/ciceronelaw15.NetCarries", spec := "netCarries", apart := false, narrowed := true }
def NetCarriesUptoSaid : Prop := netCarriesUptoRow.holds Try.pinned (OpenSpec.upto netCarriesSpec)

/-- 'ciceronelaw15.NetNumbers', WHERE WHAT IT READS IS OF BULK AT MOST 1048576: true; the input reads as it did. -/
def netNumbersUptoRow : OpenClaim := { program := "ytdnbdmffaoimgaa", sum := "67ffc97345c89ad7d52b525343d4d8fe095f553343774bea33c6ef5cb73d2311", func := "cicerone/ciceronelaw15.NetNumbers", spec := "netNumbers", unfollowed := true, recurses := true, apart := false, narrowed := true }
def NetNumbersUptoSaid : Prop := netNumbersUptoRow.holds Try.pinned (OpenSpec.upto netNumbersSpec)

/-- 'ciceronelaw15.NetNobody', WHERE WHAT IT READS IS OF BULK AT MOST 1048576: true; the input reads as it did. -/
def netNobodyUptoRow : OpenClaim := { program := "ytdnbdmffaoimgaa", sum := "67ffc97345c89ad7d52b525343d4d8fe095f553343774bea33c6ef5cb73d2311", func := "cicerone/ciceronelaw15.NetNobody", spec := "netNobody", unfollowed := true, recurses := true, apart := false, narrowed := true }
def NetNobodyUptoSaid : Prop := netNobodyUptoRow.holds Try.pinned (OpenSpec.upto netNobodySpec)

/-- 'ciceronelaw15.NetLives', WHERE WHAT IT READS IS OF BULK AT MOST 1048576: true; the input reads as it did. -/
def netLivesUptoRow : OpenClaim := { program := "ytdnbdmffaoimgaa", sum := "67ffc97345c89ad7d52b525343d4d8fe095f553343774bea33c6ef5cb73d2311", func := "cicerone/ciceronelaw15.NetLives", spec := "netLives", unfollowed := true, recurses := true, apart := false, narrowed := true }
def NetLivesUptoSaid : Prop := netLivesUptoRow.holds Try.pinned (OpenSpec.upto netLivesSpec)

end Rows
end Go.Proofs.Ytdnbdmffaoimgaa
