/-
  DERIVED. GIVEN WITH THE SEED: THE CARDS: each row of YtigffdmpofcdgaaGreatDoorRows.lean that lists a variable, with what it lists TIED to the program's text (the seventh form; the later family's looks); each row that meets fmt, with fmt's text TOLD by the authors' own Lean function (tested against real Go, not proved from fmt's source: count such statements apart). THE CARD IS WHAT COUNTS. Prove the row's statement (the work); the ties are given (YtigffdmpofcdgaaGreatDoorTie.lean); close each card by the builder's one call (the guide's Derived/Test/ToyasCard.lean, 'card_holds'). Laid BY PROGRAM, IN A SANDBOX (cutbox-door.mjs). By AI agents, Wed Nov 11 2026. No macro, syntax, notation, axiom, sorry.
-/
import Derived.Test.YtigffdmpofcdgaaGreatDoorRows
import GoSem.ClaimSeven
namespace Go.Proofs.YtigffdmpofcdgaaGreatDoor
namespace Rows

/-- THE TIED CARD OF 'byroadlaw07.CellsBytes'. -/
def cellsBytesCard : Claim7 := { stood := { row := cellsBytesRow, standIns := [], harness := (true, "d88af13d558934d455c560ae704ac6adc04994f03be8ce7a2d3c7a28ef503709"), looks := true }, kinds := [], alts := [], laidByText := true, laidKinds := [.handle], laidTests := true, laidLooks := .later }
def CellsBytesCardSaid : Prop := Claim7.holds Tryz.pinned (.plain (OpenSpec.ofChange cellsBytesSpec)) cellsBytesCard

/-- THE SECOND FORM's CARD OF 'byroadlaw07.CellsBytes'. -/
def cellsBytesUptoCard : Claim7 := { stood := { row := cellsBytesUptoRow, standIns := [], harness := (true, "d88af13d558934d455c560ae704ac6adc04994f03be8ce7a2d3c7a28ef503709"), looks := true }, kinds := [], alts := [], laidByText := true, laidKinds := [.handle], laidTests := true, laidLooks := .later }
def CellsBytesUptoCardSaid : Prop := Claim7.holds Tryz.pinned (.plain (OpenSpec.upto cellsBytesSpec)) cellsBytesUptoCard
end Rows
end Go.Proofs.YtigffdmpofcdgaaGreatDoor
