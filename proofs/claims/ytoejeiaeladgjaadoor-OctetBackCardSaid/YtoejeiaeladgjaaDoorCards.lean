/-
  DERIVED. GIVEN WITH THE SEED: THE CARDS: each row of YtoejeiaeladgjaaDoorRows.lean that lists a variable, with what it lists TIED to the program's text (the seventh form; the later family's looks); each row that meets fmt, with fmt's text TOLD by the authors' own Lean function (tested against real Go, not proved from fmt's source: count such statements apart). THE CARD IS WHAT COUNTS. Prove the row's statement (the work); the ties are given (YtoejeiaeladgjaaDoorTie.lean); close each card by the builder's one call (the guide's Derived/Test/ToyasCard.lean, 'card_holds'). Laid BY PROGRAM, IN A SANDBOX (cutbox-door.mjs). By AI agents, Wed Nov 11 2026. No macro, syntax, notation, axiom, sorry.
-/
import Derived.Test.YtoejeiaeladgjaaDoorRows
import GoSem.ClaimSeven
namespace Go.Proofs.YtoejeiaeladgjaaDoor
namespace Rows

/-- THE TIED CARD OF 'byroadlaw01.FaultKept'. -/
def faultKeptCard : Claim7 := { stood := { row := faultKeptRow, standIns := [], harness := (true, "3bed03ac5747bf1c821b5b530ad4bb50d40232ceffab1a985c9d52cca9f064d2"), looks := true }, kinds := [], alts := [], laidByText := true, laidKinds := [.handle], laidTests := true, laidLooks := .later }
def FaultKeptCardSaid : Prop := Claim7.holds Tryd.pinned (.plain (OpenSpec.ofChange faultKeptSpec)) faultKeptCard

/-- THE TIED CARD OF 'byroadlaw01.FaultFirst'. -/
def faultFirstCard : Claim7 := { stood := { row := faultFirstRow, standIns := [], harness := (true, "3bed03ac5747bf1c821b5b530ad4bb50d40232ceffab1a985c9d52cca9f064d2"), looks := true }, kinds := [], alts := [], laidByText := true, laidKinds := [.handle], laidTests := true, laidLooks := .later }
def FaultFirstCardSaid : Prop := Claim7.holds Tryd.pinned (.plain (OpenSpec.ofChange faultFirstSpec)) faultFirstCard

/-- THE TIED CARD OF 'byroadlaw01.FaultTells'. -/
def faultTellsCard : Claim7 := { stood := { row := faultTellsRow, standIns := [], harness := (true, "3bed03ac5747bf1c821b5b530ad4bb50d40232ceffab1a985c9d52cca9f064d2"), looks := true }, kinds := [], alts := [], laidByText := true, laidKinds := [.handle], laidTests := true, laidLooks := .later }
def FaultTellsCardSaid : Prop := Claim7.holds Tryd.pinned (.plain (OpenSpec.ofChange faultTellsSpec)) faultTellsCard

/-- THE TIED CARD OF 'byroadlaw01.FaultLibrary'. -/
def faultLibraryCard : Claim7 := { stood := { row := faultLibraryRow, standIns := [], harness := (true, "3bed03ac5747bf1c821b5b530ad4bb50d40232ceffab1a985c9d52cca9f064d2"), looks := true }, kinds := [], alts := [], laidByText := true, laidKinds := [.handle], laidTests := true, laidLooks := .later }
def FaultLibraryCardSaid : Prop := Claim7.holds Tryd.pinned (.plain (OpenSpec.ofChange faultLibrarySpec)) faultLibraryCard

/-- THE TIED CARD OF 'byroadlaw01.FaultIs'. -/
def faultIsCard : Claim7 := { stood := { row := faultIsRow, standIns := [], harness := (true, "3bed03ac5747bf1c821b5b530ad4bb50d40232ceffab1a985c9d52cca9f064d2"), looks := true }, kinds := [], alts := [], laidByText := true, laidKinds := [.handle], laidTests := true, laidLooks := .later }
def FaultIsCardSaid : Prop := Claim7.holds Tryd.pinned (.plain (OpenSpec.ofChange faultIsSpec)) faultIsCard

/-- THE TIED CARD OF 'byroadlaw02.OctetCuts'. -/
def octetCutsCard : Claim7 := { stood := { row := octetCutsRow, standIns := [], harness := (true, "3bed03ac5747bf1c821b5b530ad4bb50d40232ceffab1a985c9d52cca9f064d2"), looks := true }, kinds := [], alts := [], laidByText := true, laidKinds := [.handle], laidTests := true, laidLooks := .later }
def OctetCutsCardSaid : Prop := Claim7.holds Tryd.pinned (.plain (OpenSpec.ofChange octetCutsSpec)) octetCutsCard

/-- THE TIED CARD OF 'byroadlaw02.OctetTells'. -/
def octetTellsCard : Claim7 := { stood := { row := octetTellsRow, standIns := [], harness := (true, "3bed03ac5747bf1c821b5b530ad4bb50d40232ceffab1a985c9d52cca9f064d2"), looks := true }, kinds := [], alts := [], laidByText := true, laidKinds := [.handle], laidTests := true, laidLooks := .later }
def OctetTellsCardSaid : Prop := Claim7.holds Tryd.pinned (.plain (OpenSpec.ofChange octetTellsSpec)) octetTellsCard

/-- THE TIED CARD OF 'byroadlaw02.OctetOne'. -/
def octetOneCard : Claim7 := { stood := { row := octetOneRow, standIns := [], harness := (true, "3bed03ac5747bf1c821b5b530ad4bb50d40232ceffab1a985c9d52cca9f064d2"), looks := true }, kinds := [], alts := [], laidByText := true, laidKinds := [.handle], laidTests := true, laidLooks := .later }
def OctetOneCardSaid : Prop := Claim7.holds Tryd.pinned (.plain (OpenSpec.ofChange octetOneSpec)) octetOneCard

/-- THE TIED CARD OF 'byroadlaw02.OctetNil'. -/
def octetNilCard : Claim7 := { stood := { row := octetNilRow, standIns := [], harness := (true, "3bed03ac5747bf1c821b5b530ad4bb50d40232ceffab1a985c9d52cca9f064d2"), looks := true }, kinds := [], alts := [], laidByText := true, laidKinds := [.handle], laidTests := true, laidLooks := .later }
def OctetNilCardSaid : Prop := Claim7.holds Tryd.pinned (.plain (OpenSpec.ofChange octetNilSpec)) octetNilCard

/-- THE TIED CARD OF 'byroadlaw02.OctetBack'. -/
def octetBackCard : Claim7 := { stood := { row := octetBackRow, standIns := [], harness := (true, "3bed03ac5747bf1c821b5b530ad4bb50d40232ceffab1a985c9d52cca9f064d2"), looks := true }, kinds := [], alts := [], laidByText := true, laidKinds := [.handle], laidTests := true, laidLooks := .later }
def OctetBackCardSaid : Prop := Claim7.holds Tryd.pinned (.plain (OpenSpec.ofChange octetBackSpec)) octetBackCard

/-- THE SECOND FORM's CARD OF 'byroadlaw01.FaultKept'. -/
def faultKeptUptoCard : Claim7 := { stood := { row := faultKeptUptoRow, standIns := [], harness := (true, "3bed03ac5747bf1c821b5b530ad4bb50d40232ceffab1a985c9d52cca9f064d2"), looks := true }, kinds := [], alts := [], laidByText := true, laidKinds := [.handle], laidTests := true, laidLooks := .later }
def FaultKeptUptoCardSaid : Prop := Claim7.holds Tryd.pinned (.plain (OpenSpec.upto faultKeptSpec)) faultKeptUptoCard

/-- THE SECOND FORM's CARD OF 'byroadlaw01.FaultFirst'. -/
def faultFirstUptoCard : Claim7 := { stood := { row := faultFirstUptoRow, standIns := [], harness := (true, "3bed03ac5747bf1c821b5b530ad4bb50d40232ceffab1a985c9d52cca9f064d2"), looks := true }, kinds := [], alts := [], laidByText := true, laidKinds := [.handle], laidTests := true, laidLooks := .later }
def FaultFirstUptoCardSaid : Prop := Claim7.holds Tryd.pinned (.plain (OpenSpec.upto faultFirstSpec)) faultFirstUptoCard

/-- THE SECOND FORM's CARD OF 'byroadlaw01.FaultTells'. -/
def faultTellsUptoCard : Claim7 := { stood := { row := faultTellsUptoRow, standIns := [], harness := (true, "3bed03ac5747bf1c821b5b530ad4bb50d40232ceffab1a985c9d52cca9f064d2"), looks := true }, kinds := [], alts := [], laidByText := true, laidKinds := [.handle], laidTests := true, laidLooks := .later }
def FaultTellsUptoCardSaid : Prop := Claim7.holds Tryd.pinned (.plain (OpenSpec.upto faultTellsSpec)) faultTellsUptoCard

/-- THE SECOND FORM's CARD OF 'byroadlaw01.FaultLibrary'. -/
def faultLibraryUptoCard : Claim7 := { stood := { row := faultLibraryUptoRow, standIns := [], harness := (true, "3bed03ac5747bf1c821b5b530ad4bb50d40232ceffab1a985c9d52cca9f064d2"), looks := true }, kinds := [], alts := [], laidByText := true, laidKinds := [.handle], laidTests := true, laidLooks := .later }
def FaultLibraryUptoCardSaid : Prop := Claim7.holds Tryd.pinned (.plain (OpenSpec.upto faultLibrarySpec)) faultLibraryUptoCard

/-- THE SECOND FORM's CARD OF 'byroadlaw01.FaultIs'. -/
def faultIsUptoCard : Claim7 := { stood := { row := faultIsUptoRow, standIns := [], harness := (true, "3bed03ac5747bf1c821b5b530ad4bb50d40232ceffab1a985c9d52cca9f064d2"), looks := true }, kinds := [], alts := [], laidByText := true, laidKinds := [.handle], laidTests := true, laidLooks := .later }
def FaultIsUptoCardSaid : Prop := Claim7.holds Tryd.pinned (.plain (OpenSpec.upto faultIsSpec)) faultIsUptoCard

/-- THE SECOND FORM's CARD OF 'byroadlaw02.OctetCuts'. -/
def octetCutsUptoCard : Claim7 := { stood := { row := octetCutsUptoRow, standIns := [], harness := (true, "3bed03ac5747bf1c821b5b530ad4bb50d40232ceffab1a985c9d52cca9f064d2"), looks := true }, kinds := [], alts := [], laidByText := true, laidKinds := [.handle], laidTests := true, laidLooks := .later }
def OctetCutsUptoCardSaid : Prop := Claim7.holds Tryd.pinned (.plain (OpenSpec.upto octetCutsSpec)) octetCutsUptoCard

/-- THE SECOND FORM's CARD OF 'byroadlaw02.OctetTells'. -/
def octetTellsUptoCard : Claim7 := { stood := { row := octetTellsUptoRow, standIns := [], harness := (true, "3bed03ac5747bf1c821b5b530ad4bb50d40232ceffab1a985c9d52cca9f064d2"), looks := true }, kinds := [], alts := [], laidByText := true, laidKinds := [.handle], laidTests := true, laidLooks := .later }
def OctetTellsUptoCardSaid : Prop := Claim7.holds Tryd.pinned (.plain (OpenSpec.upto octetTellsSpec)) octetTellsUptoCard

/-- THE SECOND FORM's CARD OF 'byroadlaw02.OctetOne'. -/
def octetOneUptoCard : Claim7 := { stood := { row := octetOneUptoRow, standIns := [], harness := (true, "3bed03ac5747bf1c821b5b530ad4bb50d40232ceffab1a985c9d52cca9f064d2"), looks := true }, kinds := [], alts := [], laidByText := true, laidKinds := [.handle], laidTests := true, laidLooks := .later }
def OctetOneUptoCardSaid : Prop := Claim7.holds Tryd.pinned (.plain (OpenSpec.upto octetOneSpec)) octetOneUptoCard

/-- THE SECOND FORM's CARD OF 'byroadlaw02.OctetNil'. -/
def octetNilUptoCard : Claim7 := { stood := { row := octetNilUptoRow, standIns := [], harness := (true, "3bed03ac5747bf1c821b5b530ad4bb50d40232ceffab1a985c9d52cca9f064d2"), looks := true }, kinds := [], alts := [], laidByText := true, laidKinds := [.handle], laidTests := true, laidLooks := .later }
def OctetNilUptoCardSaid : Prop := Claim7.holds Tryd.pinned (.plain (OpenSpec.upto octetNilSpec)) octetNilUptoCard

/-- THE SECOND FORM's CARD OF 'byroadlaw02.OctetBack'. -/
def octetBackUptoCard : Claim7 := { stood := { row := octetBackUptoRow, standIns := [], harness := (true, "3bed03ac5747bf1c821b5b530ad4bb50d40232ceffab1a985c9d52cca9f064d2"), looks := true }, kinds := [], alts := [], laidByText := true, laidKinds := [.handle], laidTests := true, laidLooks := .later }
def OctetBackUptoCardSaid : Prop := Claim7.holds Tryd.pinned (.plain (OpenSpec.upto octetBackSpec)) octetBackUptoCard
end Rows
end Go.Proofs.YtoejeiaeladgjaaDoor
