/-
  DERIVED. GIVEN WITH THE SEED: THE CARDS: each row of YticgnakjnhdfhaaDoorRows.lean that lists a variable, with what it lists TIED to the program's text (the seventh form; the later family's looks); each row that meets fmt, with fmt's text TOLD by the authors' own Lean function (tested against real Go, not proved from fmt's source: count such statements apart). THE CARD IS WHAT COUNTS. Prove the row's statement (the work); the ties are given (YticgnakjnhdfhaaDoorTie.lean); close each card by the builder's one call (the guide's Derived/Test/ToyasCard.lean, 'card_holds'). Laid BY PROGRAM, IN A SANDBOX (cutbox-door.mjs). By AI agents, Wed Nov 11 2026. No macro, syntax, notation, axiom, sorry.
-/
import Derived.Test.YticgnakjnhdfhaaDoorRows
import GoSem.ClaimSeven
namespace Go.Proofs.YticgnakjnhdfhaaDoor
namespace Rows

/-- THE TIED CARD OF 'byroadlaw07.CellsRuns'. -/
def cellsRunsCard : Claim7 := { stood := { row := cellsRunsRow, standIns := [], harness := (true, "563ddef440b69aa3f528724ecaa348e53ea36a92543ff0e842f32acb22255ed8"), looks := true }, kinds := [], alts := [], laidByText := true, laidKinds := [.handle], laidTests := true, laidLooks := .later }
def CellsRunsCardSaid : Prop := Claim7.holds Tryd.pinned (.plain (OpenSpec.ofChange cellsRunsSpec)) cellsRunsCard

/-- THE TIED CARD OF 'byroadlaw07.CellsPieces'. -/
def cellsPiecesCard : Claim7 := { stood := { row := cellsPiecesRow, standIns := [], harness := (true, "563ddef440b69aa3f528724ecaa348e53ea36a92543ff0e842f32acb22255ed8"), looks := true }, kinds := [], alts := [], laidByText := true, laidKinds := [.handle], laidTests := true, laidLooks := .later }
def CellsPiecesCardSaid : Prop := Claim7.holds Tryd.pinned (.plain (OpenSpec.ofChange cellsPiecesSpec)) cellsPiecesCard

/-- THE TIED CARD OF 'byroadlaw07.CellsApart'. -/
def cellsApartCard : Claim7 := { stood := { row := cellsApartRow, standIns := [], harness := (true, "563ddef440b69aa3f528724ecaa348e53ea36a92543ff0e842f32acb22255ed8"), looks := true }, kinds := [], alts := [], laidByText := true, laidKinds := [.handle], laidTests := true, laidLooks := .later }
def CellsApartCardSaid : Prop := Claim7.holds Tryd.pinned (.plain (OpenSpec.ofChange cellsApartSpec)) cellsApartCard

/-- THE TIED CARD OF 'byroadlaw07.CellsBack'. -/
def cellsBackCard : Claim7 := { stood := { row := cellsBackRow, standIns := [], harness := (true, "563ddef440b69aa3f528724ecaa348e53ea36a92543ff0e842f32acb22255ed8"), looks := true }, kinds := [], alts := [], laidByText := true, laidKinds := [.handle], laidTests := true, laidLooks := .later }
def CellsBackCardSaid : Prop := Claim7.holds Tryd.pinned (.plain (OpenSpec.ofChange cellsBackSpec)) cellsBackCard

/-- THE TIED CARD OF 'byroadlaw07.CellsMost'. -/
def cellsMostCard : Claim7 := { stood := { row := cellsMostRow, standIns := [], harness := (true, "563ddef440b69aa3f528724ecaa348e53ea36a92543ff0e842f32acb22255ed8"), looks := true }, kinds := [], alts := [], laidByText := true, laidKinds := [.handle], laidTests := true, laidLooks := .later }
def CellsMostCardSaid : Prop := Claim7.holds Tryd.pinned (.plain (OpenSpec.ofChange cellsMostSpec)) cellsMostCard

/-- THE TIED CARD OF 'byroadlaw07.CellsChanges'. -/
def cellsChangesCard : Claim7 := { stood := { row := cellsChangesRow, standIns := [], harness := (true, "563ddef440b69aa3f528724ecaa348e53ea36a92543ff0e842f32acb22255ed8"), looks := true }, kinds := [], alts := [], laidByText := true, laidKinds := [.handle], laidTests := true, laidLooks := .later }
def CellsChangesCardSaid : Prop := Claim7.holds Tryd.pinned (.plain (OpenSpec.ofChange cellsChangesSpec)) cellsChangesCard

/-- THE SECOND FORM's CARD OF 'byroadlaw07.CellsRuns'. -/
def cellsRunsUptoCard : Claim7 := { stood := { row := cellsRunsUptoRow, standIns := [], harness := (true, "563ddef440b69aa3f528724ecaa348e53ea36a92543ff0e842f32acb22255ed8"), looks := true }, kinds := [], alts := [], laidByText := true, laidKinds := [.handle], laidTests := true, laidLooks := .later }
def CellsRunsUptoCardSaid : Prop := Claim7.holds Tryd.pinned (.plain (OpenSpec.upto cellsRunsSpec)) cellsRunsUptoCard

/-- THE SECOND FORM's CARD OF 'byroadlaw07.CellsPieces'. -/
def cellsPiecesUptoCard : Claim7 := { stood := { row := cellsPiecesUptoRow, standIns := [], harness := (true, "563ddef440b69aa3f528724ecaa348e53ea36a92543ff0e842f32acb22255ed8"), looks := true }, kinds := [], alts := [], laidByText := true, laidKinds := [.handle], laidTests := true, laidLooks := .later }
def CellsPiecesUptoCardSaid : Prop := Claim7.holds Tryd.pinned (.plain (OpenSpec.upto cellsPiecesSpec)) cellsPiecesUptoCard

/-- THE SECOND FORM's CARD OF 'byroadlaw07.CellsApart'. -/
def cellsApartUptoCard : Claim7 := { stood := { row := cellsApartUptoRow, standIns := [], harness := (true, "563ddef440b69aa3f528724ecaa348e53ea36a92543ff0e842f32acb22255ed8"), looks := true }, kinds := [], alts := [], laidByText := true, laidKinds := [.handle], laidTests := true, laidLooks := .later }
def CellsApartUptoCardSaid : Prop := Claim7.holds Tryd.pinned (.plain (OpenSpec.upto cellsApartSpec)) cellsApartUptoCard

/-- THE SECOND FORM's CARD OF 'byroadlaw07.CellsBack'. -/
def cellsBackUptoCard : Claim7 := { stood := { row := cellsBackUptoRow, standIns := [], harness := (true, "563ddef440b69aa3f528724ecaa348e53ea36a92543ff0e842f32acb22255ed8"), looks := true }, kinds := [], alts := [], laidByText := true, laidKinds := [.handle], laidTests := true, laidLooks := .later }
def CellsBackUptoCardSaid : Prop := Claim7.holds Tryd.pinned (.plain (OpenSpec.upto cellsBackSpec)) cellsBackUptoCard

/-- THE SECOND FORM's CARD OF 'byroadlaw07.CellsMost'. -/
def cellsMostUptoCard : Claim7 := { stood := { row := cellsMostUptoRow, standIns := [], harness := (true, "563ddef440b69aa3f528724ecaa348e53ea36a92543ff0e842f32acb22255ed8"), looks := true }, kinds := [], alts := [], laidByText := true, laidKinds := [.handle], laidTests := true, laidLooks := .later }
def CellsMostUptoCardSaid : Prop := Claim7.holds Tryd.pinned (.plain (OpenSpec.upto cellsMostSpec)) cellsMostUptoCard

/-- THE SECOND FORM's CARD OF 'byroadlaw07.CellsChanges'. -/
def cellsChangesUptoCard : Claim7 := { stood := { row := cellsChangesUptoRow, standIns := [], harness := (true, "563ddef440b69aa3f528724ecaa348e53ea36a92543ff0e842f32acb22255ed8"), looks := true }, kinds := [], alts := [], laidByText := true, laidKinds := [.handle], laidTests := true, laidLooks := .later }
def CellsChangesUptoCardSaid : Prop := Claim7.holds Tryd.pinned (.plain (OpenSpec.upto cellsChangesSpec)) cellsChangesUptoCard
end Rows
end Go.Proofs.YticgnakjnhdfhaaDoor
