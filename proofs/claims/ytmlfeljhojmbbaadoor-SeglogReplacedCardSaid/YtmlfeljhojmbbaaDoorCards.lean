/-
  DERIVED. GIVEN WITH THE SEED: THE CARDS: each row of YtmlfeljhojmbbaaDoorRows.lean that lists a variable, with what it lists TIED to the program's text (the seventh form; the later family's looks); each row that meets fmt, with fmt's text TOLD by the authors' own Lean function (tested against real Go, not proved from fmt's source: count such statements apart). THE CARD IS WHAT COUNTS. Prove the row's statement (the work); the ties are given (YtmlfeljhojmbbaaDoorTie.lean); close each card by the builder's one call (the guide's Derived/Test/ToyasCard.lean, 'card_holds'). Laid BY PROGRAM, IN A SANDBOX (cutbox-door.mjs). By AI agents, Wed Nov 11 2026. No macro, syntax, notation, axiom, sorry.
-/
import Derived.Test.YtmlfeljhojmbbaaDoorRows
import GoSem.ClaimSeven
namespace Go.Proofs.YtmlfeljhojmbbaaDoor
namespace Rows

/-- THE TIED CARD OF 'ciceronelaw07.SeglogFrames'. -/
def seglogFramesCard : Claim7 := { stood := { row := seglogFramesRow, standIns := [], harness := (true, "6d9e9cdfc6825a720a2d44256f0c4205ccd969b44b20fae9f7a7cb100c71fa57"), looks := false }, kinds := [], alts := [], laidByText := true, laidKinds := [.data, .data], laidTests := true, laidLooks := .later }
def SeglogFramesCardSaid : Prop := Claim7.holds Tryd.pinned (.plain (OpenSpec.ofChange seglogFramesSpec)) seglogFramesCard

/-- THE TIED CARD OF 'ciceronelaw07.SeglogGrows'. -/
def seglogGrowsCard : Claim7 := { stood := { row := seglogGrowsRow, standIns := [], harness := (true, "6d9e9cdfc6825a720a2d44256f0c4205ccd969b44b20fae9f7a7cb100c71fa57"), looks := false }, kinds := [], alts := [], laidByText := true, laidKinds := [.data, .data, .data, .data, .data], laidTests := true, laidLooks := .later }
def SeglogGrowsCardSaid : Prop := Claim7.holds Tryd.pinned (.plain (OpenSpec.ofChange seglogGrowsSpec)) seglogGrowsCard

/-- THE TIED CARD OF 'ciceronelaw07.SeglogNobody'. -/
def seglogNobodyCard : Claim7 := { stood := { row := seglogNobodyRow, standIns := [], harness := (true, "6d9e9cdfc6825a720a2d44256f0c4205ccd969b44b20fae9f7a7cb100c71fa57"), looks := false }, kinds := [], alts := [], laidByText := true, laidKinds := [.data, .data, .data, .data, .data], laidTests := true, laidLooks := .later }
def SeglogNobodyCardSaid : Prop := Claim7.holds Tryd.pinned (.plain (OpenSpec.ofChange seglogNobodySpec)) seglogNobodyCard

/-- THE TIED CARD OF 'ciceronelaw07.SeglogAgain'. -/
def seglogAgainCard : Claim7 := { stood := { row := seglogAgainRow, standIns := [], harness := (true, "6d9e9cdfc6825a720a2d44256f0c4205ccd969b44b20fae9f7a7cb100c71fa57"), looks := false }, kinds := [], alts := [], laidByText := true, laidKinds := [.data, .data, .data, .data, .data], laidTests := true, laidLooks := .later }
def SeglogAgainCardSaid : Prop := Claim7.holds Tryd.pinned (.plain (OpenSpec.ofChange seglogAgainSpec)) seglogAgainCard

/-- THE TIED CARD OF 'ciceronelaw07.SeglogSynced'. -/
def seglogSyncedCard : Claim7 := { stood := { row := seglogSyncedRow, standIns := [], harness := (true, "6d9e9cdfc6825a720a2d44256f0c4205ccd969b44b20fae9f7a7cb100c71fa57"), looks := false }, kinds := [], alts := [], laidByText := true, laidKinds := [.data, .data, .data, .data, .data], laidTests := true, laidLooks := .later }
def SeglogSyncedCardSaid : Prop := Claim7.holds Tryd.pinned (.plain (OpenSpec.ofChange seglogSyncedSpec)) seglogSyncedCard

/-- THE TIED CARD OF 'ciceronelaw07.SeglogReplaced'. -/
def seglogReplacedCard : Claim7 := { stood := { row := seglogReplacedRow, standIns := [], harness := (true, "6d9e9cdfc6825a720a2d44256f0c4205ccd969b44b20fae9f7a7cb100c71fa57"), looks := false }, kinds := [], alts := [], laidByText := true, laidKinds := [.data, .data, .data, .data, .data], laidTests := true, laidLooks := .later }
def SeglogReplacedCardSaid : Prop := Claim7.holds Tryd.pinned (.plain (OpenSpec.ofChange seglogReplacedSpec)) seglogReplacedCard

/-- THE SECOND FORM's CARD OF 'ciceronelaw07.SeglogFrames'. -/
def seglogFramesUptoCard : Claim7 := { stood := { row := seglogFramesUptoRow, standIns := [], harness := (true, "6d9e9cdfc6825a720a2d44256f0c4205ccd969b44b20fae9f7a7cb100c71fa57"), looks := false }, kinds := [], alts := [], laidByText := true, laidKinds := [.data, .data], laidTests := true, laidLooks := .later }
def SeglogFramesUptoCardSaid : Prop := Claim7.holds Tryd.pinned (.plain (OpenSpec.upto seglogFramesSpec)) seglogFramesUptoCard

/-- THE SECOND FORM's CARD OF 'ciceronelaw07.SeglogGrows'. -/
def seglogGrowsUptoCard : Claim7 := { stood := { row := seglogGrowsUptoRow, standIns := [], harness := (true, "6d9e9cdfc6825a720a2d44256f0c4205ccd969b44b20fae9f7a7cb100c71fa57"), looks := false }, kinds := [], alts := [], laidByText := true, laidKinds := [.data, .data, .data, .data, .data], laidTests := true, laidLooks := .later }
def SeglogGrowsUptoCardSaid : Prop := Claim7.holds Tryd.pinned (.plain (OpenSpec.upto seglogGrowsSpec)) seglogGrowsUptoCard

/-- THE SECOND FORM's CARD OF 'ciceronelaw07.SeglogNobody'. -/
def seglogNobodyUptoCard : Claim7 := { stood := { row := seglogNobodyUptoRow, standIns := [], harness := (true, "6d9e9cdfc6825a720a2d44256f0c4205ccd969b44b20fae9f7a7cb100c71fa57"), looks := false }, kinds := [], alts := [], laidByText := true, laidKinds := [.data, .data, .data, .data, .data], laidTests := true, laidLooks := .later }
def SeglogNobodyUptoCardSaid : Prop := Claim7.holds Tryd.pinned (.plain (OpenSpec.upto seglogNobodySpec)) seglogNobodyUptoCard

/-- THE SECOND FORM's CARD OF 'ciceronelaw07.SeglogAgain'. -/
def seglogAgainUptoCard : Claim7 := { stood := { row := seglogAgainUptoRow, standIns := [], harness := (true, "6d9e9cdfc6825a720a2d44256f0c4205ccd969b44b20fae9f7a7cb100c71fa57"), looks := false }, kinds := [], alts := [], laidByText := true, laidKinds := [.data, .data, .data, .data, .data], laidTests := true, laidLooks := .later }
def SeglogAgainUptoCardSaid : Prop := Claim7.holds Tryd.pinned (.plain (OpenSpec.upto seglogAgainSpec)) seglogAgainUptoCard

/-- THE SECOND FORM's CARD OF 'ciceronelaw07.SeglogSynced'. -/
def seglogSyncedUptoCard : Claim7 := { stood := { row := seglogSyncedUptoRow, standIns := [], harness := (true, "6d9e9cdfc6825a720a2d44256f0c4205ccd969b44b20fae9f7a7cb100c71fa57"), looks := false }, kinds := [], alts := [], laidByText := true, laidKinds := [.data, .data, .data, .data, .data], laidTests := true, laidLooks := .later }
def SeglogSyncedUptoCardSaid : Prop := Claim7.holds Tryd.pinned (.plain (OpenSpec.upto seglogSyncedSpec)) seglogSyncedUptoCard

/-- THE SECOND FORM's CARD OF 'ciceronelaw07.SeglogReplaced'. -/
def seglogReplacedUptoCard : Claim7 := { stood := { row := seglogReplacedUptoRow, standIns := [], harness := (true, "6d9e9cdfc6825a720a2d44256f0c4205ccd969b44b20fae9f7a7cb100c71fa57"), looks := false }, kinds := [], alts := [], laidByText := true, laidKinds := [.data, .data, .data, .data, .data], laidTests := true, laidLooks := .later }
def SeglogReplacedUptoCardSaid : Prop := Claim7.holds Tryd.pinned (.plain (OpenSpec.upto seglogReplacedSpec)) seglogReplacedUptoCard
end Rows
end Go.Proofs.YtmlfeljhojmbbaaDoor
