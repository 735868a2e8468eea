/-
  DERIVED. GIVEN WITH THE SEED: THE CARDS: each row of YtlekfpeonehggaaGreatDoorRows.lean that lists a variable, with what it lists TIED to the program's text (the seventh form; the later family's looks); each row that meets fmt, with fmt's text TOLD by the authors' own Lean function (tested against real Go, not proved from fmt's source: count such statements apart). THE CARD IS WHAT COUNTS. Prove the row's statement (the work); the ties are given (YtlekfpeonehggaaGreatDoorTie.lean); close each card by the builder's one call (the guide's Derived/Test/ToyasCard.lean, 'card_holds'). Laid BY PROGRAM, IN A SANDBOX (cutbox-door.mjs). By AI agents, Wed Nov 11 2026. No macro, syntax, notation, axiom, sorry.
-/
import Derived.Test.YtlekfpeonehggaaGreatDoorRows
import GoSem.ClaimSeven
namespace Go.Proofs.YtlekfpeonehggaaGreatDoor
namespace Rows

/-- THE TIED CARD OF 'byroadlaw08.PageLoads'. -/
def pageLoadsCard : Claim7 := { stood := { row := pageLoadsRow, standIns := [], harness := (true, "5d5a983179f7b19b96a097b58f41019e7cd852e066d4f368dd5592d93f791d98"), looks := true }, kinds := [], alts := [], laidByText := true, laidKinds := [.handle], laidTests := true, laidLooks := .later }
def PageLoadsCardSaid : Prop := Claim7.holds Tryz.pinned (.plain (OpenSpec.ofChange pageLoadsSpec)) pageLoadsCard

/-- THE TIED CARD OF 'byroadlaw08.PagePlays'. -/
def pagePlaysCard : Claim7 := { stood := { row := pagePlaysRow, standIns := [], harness := (true, "5d5a983179f7b19b96a097b58f41019e7cd852e066d4f368dd5592d93f791d98"), looks := true }, kinds := [], alts := [], laidByText := true, laidKinds := [.handle], laidTests := true, laidLooks := .later }
def PagePlaysCardSaid : Prop := Claim7.holds Tryz.pinned (.plain (OpenSpec.ofChange pagePlaysSpec)) pagePlaysCard

/-- THE SECOND FORM's CARD OF 'byroadlaw08.PageLoads'. -/
def pageLoadsUptoCard : Claim7 := { stood := { row := pageLoadsUptoRow, standIns := [], harness := (true, "5d5a983179f7b19b96a097b58f41019e7cd852e066d4f368dd5592d93f791d98"), looks := true }, kinds := [], alts := [], laidByText := true, laidKinds := [.handle], laidTests := true, laidLooks := .later }
def PageLoadsUptoCardSaid : Prop := Claim7.holds Tryz.pinned (.plain (OpenSpec.upto pageLoadsSpec)) pageLoadsUptoCard

/-- THE SECOND FORM's CARD OF 'byroadlaw08.PagePlays'. -/
def pagePlaysUptoCard : Claim7 := { stood := { row := pagePlaysUptoRow, standIns := [], harness := (true, "5d5a983179f7b19b96a097b58f41019e7cd852e066d4f368dd5592d93f791d98"), looks := true }, kinds := [], alts := [], laidByText := true, laidKinds := [.handle], laidTests := true, laidLooks := .later }
def PagePlaysUptoCardSaid : Prop := Claim7.holds Tryz.pinned (.plain (OpenSpec.upto pagePlaysSpec)) pagePlaysUptoCard
end Rows
end Go.Proofs.YtlekfpeonehggaaGreatDoor
