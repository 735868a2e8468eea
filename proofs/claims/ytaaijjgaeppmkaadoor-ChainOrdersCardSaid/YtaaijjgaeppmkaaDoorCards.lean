/-
  DERIVED. GIVEN WITH THE SEED: THE CARDS: each row of YtaaijjgaeppmkaaDoorRows.lean that lists a variable, with what it lists TIED to the program's text (the seventh form; the later family's looks); each row that meets fmt, with fmt's text TOLD by the authors' own Lean function (tested against real Go, not proved from fmt's source: count such statements apart). THE CARD IS WHAT COUNTS. Prove the row's statement (the work); the ties are given (YtaaijjgaeppmkaaDoorTie.lean); close each card by the builder's one call (the guide's Derived/Test/ToyasCard.lean, 'card_holds'). Laid BY PROGRAM, IN A SANDBOX (cutbox-door.mjs). By AI agents, Wed Nov 11 2026. No macro, syntax, notation, axiom, sorry.
-/
import Derived.Test.YtaaijjgaeppmkaaDoorRows
import GoSem.ClaimSeven
namespace Go.Proofs.YtaaijjgaeppmkaaDoor
namespace Rows

/-- THE TIED CARD OF 'byroadlaw13.ChainOrders'. -/
def chainOrdersCard : Claim7 := { stood := { row := chainOrdersRow, standIns := [], harness := (true, "a4fb423822d6e1c929f29edf7a98fa0cc7f37cf0c4f21720a31d32cf3d68c070"), looks := true }, kinds := [], alts := [], laidByText := true, laidKinds := [.handle], laidTests := true, laidLooks := .later }
def ChainOrdersCardSaid : Prop := Claim7.holds Tryd.pinned (.plain (OpenSpec.ofChange chainOrdersSpec)) chainOrdersCard

/-- THE TIED CARD OF 'byroadlaw13.ChainPrunes'. -/
def chainPrunesCard : Claim7 := { stood := { row := chainPrunesRow, standIns := [], harness := (true, "a4fb423822d6e1c929f29edf7a98fa0cc7f37cf0c4f21720a31d32cf3d68c070"), looks := true }, kinds := [], alts := [], laidByText := true, laidKinds := [.handle], laidTests := true, laidLooks := .later }
def ChainPrunesCardSaid : Prop := Claim7.holds Tryd.pinned (.plain (OpenSpec.ofChange chainPrunesSpec)) chainPrunesCard

/-- THE TIED CARD OF 'byroadlaw13.ChainPlays'. -/
def chainPlaysCard : Claim7 := { stood := { row := chainPlaysRow, standIns := [], harness := (true, "a4fb423822d6e1c929f29edf7a98fa0cc7f37cf0c4f21720a31d32cf3d68c070"), looks := true }, kinds := [], alts := [], laidByText := true, laidKinds := [.handle], laidTests := true, laidLooks := .later }
def ChainPlaysCardSaid : Prop := Claim7.holds Tryd.pinned (.plain (OpenSpec.ofChange chainPlaysSpec)) chainPlaysCard

/-- THE TIED CARD OF 'byroadlaw13.ChainNil'. -/
def chainNilCard : Claim7 := { stood := { row := chainNilRow, standIns := [], harness := (true, "a4fb423822d6e1c929f29edf7a98fa0cc7f37cf0c4f21720a31d32cf3d68c070"), looks := true }, kinds := [], alts := [], laidByText := true, laidKinds := [.handle], laidTests := true, laidLooks := .later }
def ChainNilCardSaid : Prop := Claim7.holds Tryd.pinned (.plain (OpenSpec.ofChange chainNilSpec)) chainNilCard

/-- THE SECOND FORM's CARD OF 'byroadlaw13.ChainOrders'. -/
def chainOrdersUptoCard : Claim7 := { stood := { row := chainOrdersUptoRow, standIns := [], harness := (true, "a4fb423822d6e1c929f29edf7a98fa0cc7f37cf0c4f21720a31d32cf3d68c070"), looks := true }, kinds := [], alts := [], laidByText := true, laidKinds := [.handle], laidTests := true, laidLooks := .later }
def ChainOrdersUptoCardSaid : Prop := Claim7.holds Tryd.pinned (.plain (OpenSpec.upto chainOrdersSpec)) chainOrdersUptoCard

/-- THE SECOND FORM's CARD OF 'byroadlaw13.ChainPrunes'. -/
def chainPrunesUptoCard : Claim7 := { stood := { row := chainPrunesUptoRow, standIns := [], harness := (true, "a4fb423822d6e1c929f29edf7a98fa0cc7f37cf0c4f21720a31d32cf3d68c070"), looks := true }, kinds := [], alts := [], laidByText := true, laidKinds := [.handle], laidTests := true, laidLooks := .later }
def ChainPrunesUptoCardSaid : Prop := Claim7.holds Tryd.pinned (.plain (OpenSpec.upto chainPrunesSpec)) chainPrunesUptoCard

/-- THE SECOND FORM's CARD OF 'byroadlaw13.ChainPlays'. -/
def chainPlaysUptoCard : Claim7 := { stood := { row := chainPlaysUptoRow, standIns := [], harness := (true, "a4fb423822d6e1c929f29edf7a98fa0cc7f37cf0c4f21720a31d32cf3d68c070"), looks := true }, kinds := [], alts := [], laidByText := true, laidKinds := [.handle], laidTests := true, laidLooks := .later }
def ChainPlaysUptoCardSaid : Prop := Claim7.holds Tryd.pinned (.plain (OpenSpec.upto chainPlaysSpec)) chainPlaysUptoCard

/-- THE SECOND FORM's CARD OF 'byroadlaw13.ChainNil'. -/
def chainNilUptoCard : Claim7 := { stood := { row := chainNilUptoRow, standIns := [], harness := (true, "a4fb423822d6e1c929f29edf7a98fa0cc7f37cf0c4f21720a31d32cf3d68c070"), looks := true }, kinds := [], alts := [], laidByText := true, laidKinds := [.handle], laidTests := true, laidLooks := .later }
def ChainNilUptoCardSaid : Prop := Claim7.holds Tryd.pinned (.plain (OpenSpec.upto chainNilSpec)) chainNilUptoCard
end Rows
end Go.Proofs.YtaaijjgaeppmkaaDoor
