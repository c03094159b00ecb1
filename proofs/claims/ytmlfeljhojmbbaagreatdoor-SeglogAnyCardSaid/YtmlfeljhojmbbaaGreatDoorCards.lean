/-
  DERIVED. GIVEN WITH THE SEED: THE CARDS: each row of YtmlfeljhojmbbaaGreatDoorRows.lean that lists a variable, with what it lists TIED to the program's text (the seventh form; the later family's looks); each row that meets fmt, with fmt's text TOLD by the authors' own Lean function (tested against real Go, not proved from fmt's source: count such statements apart). THE CARD IS WHAT COUNTS. Prove the row's statement (the work); the ties are given (YtmlfeljhojmbbaaGreatDoorTie.lean); close each card by the builder's one call (the guide's Derived/Test/ToyasCard.lean, 'card_holds'). Laid BY PROGRAM, IN A SANDBOX (cutbox-door.mjs). By AI agents, Wed Nov 11 2026. No macro, syntax, notation, axiom, sorry.
-/
import Derived.Test.YtmlfeljhojmbbaaGreatDoorRows
import GoSem.ClaimSeven
namespace Go.Proofs.YtmlfeljhojmbbaaGreatDoor
namespace Rows

/-- THE TIED CARD OF 'ciceronelaw07.SeglogAny'. -/
def seglogAnyCard : Claim7 := { stood := { row := seglogAnyRow, standIns := [], harness := (true, "255aa68f955b2923874f4b9e0c0135649517ed4162593405b80a8884cf1a6612"), looks := false }, kinds := [], alts := [], laidByText := true, laidKinds := [.data, .data, .data, .data, .data], laidTests := true, laidLooks := .later }
def SeglogAnyCardSaid : Prop := Claim7.holds Tryz.pinned (.plain (OpenSpec.ofChange seglogAnySpec)) seglogAnyCard

/-- THE TIED CARD OF 'ciceronelaw07.SeglogStops'. -/
def seglogStopsCard : Claim7 := { stood := { row := seglogStopsRow, standIns := [], harness := (true, "255aa68f955b2923874f4b9e0c0135649517ed4162593405b80a8884cf1a6612"), looks := false }, kinds := [], alts := [], laidByText := true, laidKinds := [.data, .data, .data, .data, .data], laidTests := true, laidLooks := .later }
def SeglogStopsCardSaid : Prop := Claim7.holds Tryz.pinned (.plain (OpenSpec.ofChange seglogStopsSpec)) seglogStopsCard

/-- THE SECOND FORM's CARD OF 'ciceronelaw07.SeglogAny'. -/
def seglogAnyUptoCard : Claim7 := { stood := { row := seglogAnyUptoRow, standIns := [], harness := (true, "255aa68f955b2923874f4b9e0c0135649517ed4162593405b80a8884cf1a6612"), looks := false }, kinds := [], alts := [], laidByText := true, laidKinds := [.data, .data, .data, .data, .data], laidTests := true, laidLooks := .later }
def SeglogAnyUptoCardSaid : Prop := Claim7.holds Tryz.pinned (.plain (OpenSpec.upto seglogAnySpec)) seglogAnyUptoCard

/-- THE SECOND FORM's CARD OF 'ciceronelaw07.SeglogStops'. -/
def seglogStopsUptoCard : Claim7 := { stood := { row := seglogStopsUptoRow, standIns := [], harness := (true, "255aa68f955b2923874f4b9e0c0135649517ed4162593405b80a8884cf1a6612"), looks := false }, kinds := [], alts := [], laidByText := true, laidKinds := [.data, .data, .data, .data, .data], laidTests := true, laidLooks := .later }
def SeglogStopsUptoCardSaid : Prop := Claim7.holds Tryz.pinned (.plain (OpenSpec.upto seglogStopsSpec)) seglogStopsUptoCard
end Rows
end Go.Proofs.YtmlfeljhojmbbaaGreatDoor
