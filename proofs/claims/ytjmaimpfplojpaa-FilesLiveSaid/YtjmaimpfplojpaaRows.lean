/-
  No cell of these rows narrows 'for every input' (looked for: loops, veiled, ifaces, maps, wideKeys, modest, calm, conditions, laid).
  DERIVED. THE GIVEN ROWS OF THIS SEAT. 7 by the template 'for every input the law returns true; each argument reads behind the call as it read before'; 0 by the template 'total and deterministic' (their statements: YtjmaimpfplojpaaTotals.lean).
  GIVEN WITH THE SEED: the statements are not yours to turn. If you find one false, say at which input.
  Laid BY PROGRAM, IN A SANDBOX (cutbox-rows.mjs): the forced cells as the released guide's own fill.sh prints them over the translation 19b6c65809b23b8a… (all of the seat's roots in one cut). By AI agents, Wed Nov 11 2026. No macro, syntax, notation, axiom, sorry.
-/
import Derived.Test.YtjmaimpfplojpaaChecked
import GoSem.Claim
import GoSem.ClaimJoined
import GoSem.ClaimMapViews
import Derived.JoinedTies
import Derived.KernelRfl
namespace Go.Proofs.Ytjmaimpfplojpaa
/- THE CELL 'sum', in the pinned program and in every row, IS THE sha256 OF THE DUMP (.gsa) THAT YtjmaimpfplojpaaProg.lean LOADS. Nothing in Lean hashes anything: it is a label: what it is worth is what the hold of that sum in a sandbox is worth. -/
noncomputable def Try.pinned : Pinned := { name := "ytjmaimpfplojpaa", sum := "19b6c65809b23b8a3718c9d3cbf47d997a7f5a0f4af5a06ff8d492ced332e616", checked := Try.checked }
namespace Rows
def none {H : Type} : Left H := { results := [], args := [] }

/-- 'ciceronelaw06.FilesFull': WHATEVER THE INPUT: true; the input reads as it did. -/
def filesFullSpec : ChangeSpec := { name := "filesFull", fn := fun _ => fun
  | [d1, d2] => { results := [.lit (.bool true)], args := [d1, d2] }
  | _ => none }
def filesFullRow : OpenClaim := { program := "ytjmaimpfplojpaa", sum := "19b6c65809b23b8a3718c9d3cbf47d997a7f5a0f4af5a06ff8d492ced332e616", func := "cicerone/ciceronelaw06.FilesFull", spec := "filesFull", unfollowed := true, recurses := true, apart := false }
def FilesFullSaid : Prop := filesFullRow.holds Try.pinned (OpenSpec.ofChange filesFullSpec)

/-- ITS FALSE NEIGHBOUR: 'it returns false'. Refute it at one input. -/
def filesFullWrong : ChangeSpec := { name := "filesFull", fn := fun _ => fun
  | [d1, d2] => { results := [.lit (.bool false)], args := [d1, d2] }
  | _ => none }
def FilesFullWrongFalsely : Prop := filesFullRow.holds Try.pinned (OpenSpec.ofChange filesFullWrong)

/-- 'ciceronelaw06.FilesShort': WHATEVER THE INPUT: true; the input reads as it did. -/
def filesShortSpec : ChangeSpec := { name := "filesShort", fn := fun _ => fun
  | [d1, d2, d3] => { results := [.lit (.bool true)], args := [d1, d2, d3] }
  | _ => none }
def filesShortRow : OpenClaim := { program := "ytjmaimpfplojpaa", sum := "19b6c65809b23b8a3718c9d3cbf47d997a7f5a0f4af5a06ff8d492ced332e616", func := "cicerone/ciceronelaw06.FilesShort", spec := "filesShort", unfollowed := true, recurses := true, apart := false }
def FilesShortSaid : Prop := filesShortRow.holds Try.pinned (OpenSpec.ofChange filesShortSpec)

/-- ITS FALSE NEIGHBOUR: 'it returns false'. Refute it at one input. -/
def filesShortWrong : ChangeSpec := { name := "filesShort", fn := fun _ => fun
  | [d1, d2, d3] => { results := [.lit (.bool false)], args := [d1, d2, d3] }
  | _ => none }
def FilesShortWrongFalsely : Prop := filesShortRow.holds Try.pinned (OpenSpec.ofChange filesShortWrong)

/-- 'ciceronelaw06.FilesStay': WHATEVER THE INPUT: true; the input reads as it did. -/
def filesStaySpec : ChangeSpec := { name := "filesStay", fn := fun _ => fun
  | [d1, d2, d3, d4] => { results := [.lit (.bool true)], args := [d1, d2, d3, d4] }
  | _ => none }
def filesStayRow : OpenClaim := { program := "ytjmaimpfplojpaa", sum := "19b6c65809b23b8a3718c9d3cbf47d997a7f5a0f4af5a06ff8d492ced332e616", func := "cicerone/ciceronelaw06.FilesStay", spec := "filesStay", unfollowed := true, recurses := true, apart := false }
def FilesStaySaid : Prop := filesStayRow.holds Try.pinned (OpenSpec.ofChange filesStaySpec)

/-- ITS FALSE NEIGHBOUR: 'it returns false'. Refute it at one input. -/
def filesStayWrong : ChangeSpec := { name := "filesStay", fn := fun _ => fun
  | [d1, d2, d3, d4] => { results := [.lit (.bool false)], args := [d1, d2, d3, d4] }
  | _ => none }
def FilesStayWrongFalsely : Prop := filesStayRow.holds Try.pinned (OpenSpec.ofChange filesStayWrong)

/-- 'ciceronelaw06.FilesFuse': WHATEVER THE INPUT: true; the input reads as it did. -/
def filesFuseSpec : ChangeSpec := { name := "filesFuse", fn := fun _ => fun
  | [d1, d2] => { results := [.lit (.bool true)], args := [d1, d2] }
  | _ => none }
def filesFuseRow : OpenClaim := { program := "ytjmaimpfplojpaa", sum := "19b6c65809b23b8a3718c9d3cbf47d997a7f5a0f4af5a06ff8d492ced332e616", func := "cicerone/ciceronelaw06.FilesFuse", spec := "filesFuse", unfollowed := true, recurses := true, apart := false }
def FilesFuseSaid : Prop := filesFuseRow.holds Try.pinned (OpenSpec.ofChange filesFuseSpec)

/-- ITS FALSE NEIGHBOUR: 'it returns false'. Refute it at one input. -/
def filesFuseWrong : ChangeSpec := { name := "filesFuse", fn := fun _ => fun
  | [d1, d2] => { results := [.lit (.bool false)], args := [d1, d2] }
  | _ => none }
def FilesFuseWrongFalsely : Prop := filesFuseRow.holds Try.pinned (OpenSpec.ofChange filesFuseWrong)

/-- 'ciceronelaw06.FilesNames': WHATEVER THE INPUT: true; the input reads as it did. -/
def filesNamesSpec : ChangeSpec := { name := "filesNames", fn := fun _ => fun
  | [d1, d2] => { results := [.lit (.bool true)], args := [d1, d2] }
  | _ => none }
def filesNamesRow : OpenClaim := { program := "ytjmaimpfplojpaa", sum := "19b6c65809b23b8a3718c9d3cbf47d997a7f5a0f4af5a06ff8d492ced332e616", func := "cicerone/ciceronelaw06.FilesNames", spec := "filesNames", unfollowed := true, recurses := true, apart := false }
def FilesNamesSaid : Prop := filesNamesRow.holds Try.pinned (OpenSpec.ofChange filesNamesSpec)

/-- ITS FALSE NEIGHBOUR: 'it returns false'. Refute it at one input. -/
def filesNamesWrong : ChangeSpec := { name := "filesNames", fn := fun _ => fun
  | [d1, d2] => { results := [.lit (.bool false)], args := [d1, d2] }
  | _ => none }
def FilesNamesWrongFalsely : Prop := filesNamesRow.holds Try.pinned (OpenSpec.ofChange filesNamesWrong)

/-- 'ciceronelaw06.FilesNobody': WHATEVER THE INPUT: true; the input reads as it did. -/
def filesNobodySpec : ChangeSpec := { name := "filesNobody", fn := fun _ => fun
  | [d] => { results := [.lit (.bool true)], args := [d] }
  | _ => none }
def filesNobodyRow : OpenClaim := { program := "ytjmaimpfplojpaa", sum := "19b6c65809b23b8a3718c9d3cbf47d997a7f5a0f4af5a06ff8d492ced332e616", func := "cicerone/ciceronelaw06.FilesNobody", spec := "filesNobody", unfollowed := true, recurses := true, apart := false }
def FilesNobodySaid : Prop := filesNobodyRow.holds Try.pinned (OpenSpec.ofChange filesNobodySpec)

/-- ITS FALSE NEIGHBOUR: 'it returns false'. Refute it at one input. -/
def filesNobodyWrong : ChangeSpec := { name := "filesNobody", fn := fun _ => fun
  | [d] => { results := [.lit (.bool false)], args := [d] }
  | _ => none }
def FilesNobodyWrongFalsely : Prop := filesNobodyRow.holds Try.pinned (OpenSpec.ofChange filesNobodyWrong)

/-- 'ciceronelaw06.FilesLive': WHATEVER THE INPUT: true; the input reads as it did. -/
def filesLiveSpec : ChangeSpec := { name := "filesLive", fn := fun _ => fun
  | [d1, d2, d3] => { results := [.lit (.bool true)], args := [d1, d2, d3] }
  | _ => none }
def filesLiveRow : OpenClaim := { program := "ytjmaimpfplojpaa", sum := "19b6c65809b23b8a3718c9d3cbf47d997a7f5a0f4af5a06ff8d492ced332e616", func := "cicerone/ciceronelaw06.FilesLive", spec := "filesLive", unfollowed := true, recurses := true, apart := false }
def FilesLiveSaid : Prop := filesLiveRow.holds Try.pinned (OpenSpec.ofChange filesLiveSpec)

/-- ITS FALSE NEIGHBOUR: 'it returns false'. Refute it at one input. -/
def filesLiveWrong : ChangeSpec := { name := "filesLive", fn := fun _ => fun
  | [d1, d2, d3] => { results := [.lit (.bool false)], args := [d1, d2, d3] }
  | _ => none }
def FilesLiveWrongFalsely : Prop := filesLiveRow.holds Try.pinned (OpenSpec.ofChange filesLiveWrong)

/- THE SECOND FORM. 'bulk': how many values and letters a reading holds, each counted each time it is reached (what is shared counts as often as it is met; a slice's spare places count too). A statement '..UptoSaid' is the law's where the arguments, and the package variables that the reading takes, are together of bulk at most 1048576: NARROWER than '..Said'. Prove '..Said' where nothing that the law and all that it calls make is longer than what came in: it says more and counts as full. Else prove '..UptoSaid'. A law counts once. -/
mutual
def uptoBulk {H : Type} : DataW H → Nat
  | .lit (.string bytes) => bytes.length + 1
  | .lit _ => 1
  | .nil => 1
  | .ptr d => uptoBulk d + 1
  | .slice elems spare => uptoBulkAll elems + uptoBulkAll spare + 1
  | .agg parts => uptoBulkAll parts + 1
  | .iface _ d => uptoBulk d + 1
  | .map entries => uptoBulkEntries entries + 1
  | .held _ => 1
def uptoBulkAll {H : Type} : List (DataW H) → Nat
  | [] => 0
  | d :: r => uptoBulk d + uptoBulkAll r
def uptoBulkEntries {H : Type} : List (Lit × DataW H) → Nat
  | [] => 0
  | x :: r => uptoBulkEntry x + uptoBulkEntries r
def uptoBulkEntry {H : Type} : Lit × DataW H → Nat
  | (.string bytes, d) => bytes.length + uptoBulk d + 1
  | (_, d) => uptoBulk d + 1
 end
def uptoSmall : (H : Type) → List (DataW H) → Bool := fun _ ds => decide (uptoBulkAll ds ≤ 1048576)
def OpenSpec.upto (s : _root_.Go.ChangeSpec) : _root_.Go.OpenSpec := { _root_.Go.OpenSpec.ofChange s with cond := some uptoSmall }

/-- 'ciceronelaw06.FilesFull', WHERE WHAT IT READS IS OF BULK AT MOST 1048576: true; the input reads as it did. -/
def filesFullUptoRow : OpenClaim := { program := "ytjmaimpfplojpaa", sum := "19b6c65809b23b8a3718c9d3cbf47d997a7f5a0f4af5a06ff8d492ced332e616", func := "cicerone/ciceronelaw06.FilesFull", spec := "filesFull", unfollowed := true, recurses := true, apart := false, narrowed := true }
def FilesFullUptoSaid : Prop := filesFullUptoRow.holds Try.pinned (OpenSpec.upto filesFullSpec)

/-- 'ciceronelaw06.FilesShort', WHERE WHAT IT READS IS OF BULK AT MOST 1048576: true; the input reads as it did. -/
def filesShortUptoRow : OpenClaim := { program := "ytjmaimpfplojpaa", sum := "19b6c65809b23b8a3718c9d3cbf47d997a7f5a0f4af5a06ff8d492ced332e616", func := "cicerone/ciceronelaw06.FilesShort", spec := "filesShort", unfollowed := true, recurses := true, apart := false, narrowed := true }
def FilesShortUptoSaid : Prop := filesShortUptoRow.holds Try.pinned (OpenSpec.upto filesShortSpec)

/-- 'ciceronelaw06.FilesStay', WHERE WHAT IT READS IS OF BULK AT MOST 1048576: true; the input reads as it did. -/
def filesStayUptoRow : OpenClaim := { program := "ytjmaimpfplojpaa", sum := "19b6c65809b23b8a3718c9d3cbf47d997a7f5a0f4af5a06ff8d492ced332e616", func := "cicerone/ciceronelaw06.FilesStay", spec := "filesStay", unfollowed := true, recurses := true, apart := false, narrowed := true }
def FilesStayUptoSaid : Prop := filesStayUptoRow.holds Try.pinned (OpenSpec.upto filesStaySpec)

/-- 'ciceronelaw06.FilesFuse', WHERE WHAT IT READS IS OF BULK AT MOST 1048576: true; the input reads as it did. -/
def filesFuseUptoRow : OpenClaim := { program := "ytjmaimpfplojpaa", sum := "19b6c65809b23b8a3718c9d3cbf47d997a7f5a0f4af5a06ff8d492ced332e616", func := "cicerone/ciceronelaw06.FilesFuse", spec := "filesFuse", unfollowed := true, recurses := true, apart := false, narrowed := true }
def FilesFuseUptoSaid : Prop := filesFuseUptoRow.holds Try.pinned (OpenSpec.upto filesFuseSpec)

/-- 'ciceronelaw06.FilesNames', WHERE WHAT IT READS IS OF BULK AT MOST 1048576: true; the input reads as it did. -/
def filesNamesUptoRow : OpenClaim := { program := "ytjmaimpfplojpaa", sum := "19b6c65809b23b8a3718c9d3cbf47d997a7f5a0f4af5a06ff8d492ced332e616", func := "cicerone/ciceronelaw06.FilesNames", spec := "filesNames", unfollowed := true, recurses := true, apart := false, narrowed := true }
def FilesNamesUptoSaid : Prop := filesNamesUptoRow.holds Try.pinned (OpenSpec.upto filesNamesSpec)

/-- 'ciceronelaw06.FilesNobody', WHERE WHAT IT READS IS OF BULK AT MOST 1048576: true; the input reads as it did. -/
def filesNobodyUptoRow : OpenClaim := { program := "ytjmaimpfplojpaa", sum := "19b6c65809b23b8a3718c9d3cbf47d997a7f5a0f4af5a06ff8d492ced332e616", func := "cicerone/ciceronelaw06.FilesNobody", spec := "filesNobody", unfollowed := true, recurses := true, apart := false, narrowed := true }
def FilesNobodyUptoSaid : Prop := filesNobodyUptoRow.holds Try.pinned (OpenSpec.upto filesNobodySpec)

/-- 'ciceronelaw06.FilesLive', WHERE WHAT IT READS IS OF BULK AT MOST 1048576: true; the input reads as it did. -/
def filesLiveUptoRow : OpenClaim := { program := "ytjmaimpfplojpaa", sum := "19b6c65809b23b8a3718c9d3cbf47d997a7f5a0f4af5a06ff8d492ced332e616", func := "cicerone/ciceronelaw06.FilesLive", spec := "filesLive", unfollowed := true, recurses := true, apart := false, narrowed := true }
def FilesLiveUptoSaid : Prop := filesLiveUptoRow.holds Try.pinned (OpenSpec.upto filesLiveSpec)

end Rows
end Go.Proofs.Ytjmaimpfplojpaa
