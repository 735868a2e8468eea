/-
  DERIVED. GIVEN WITH THE SEED: THE CARDS: each row of YtkfciofpbnlmeaaDoorRows.lean that lists a variable, with what it lists TIED to the program's text (the seventh form; the later family's looks); each row that meets fmt, with fmt's text TOLD by the authors' own Lean function (tested against real Go, not proved from fmt's source: count such statements apart). THE CARD IS WHAT COUNTS. Prove the row's statement (the work); the ties are given (YtkfciofpbnlmeaaDoorTie.lean); close each card by the builder's one call (the guide's Derived/Test/ToyasCard.lean, 'card_holds'). Laid BY PROGRAM, IN A SANDBOX (cutbox-door.mjs). By AI agents, Wed Nov 11 2026. No macro, syntax, notation, axiom, sorry.
-/
import Derived.Test.YtkfciofpbnlmeaaDoorRows
import GoSem.ClaimSeven
namespace Go.Proofs.YtkfciofpbnlmeaaDoor
namespace Rows

/-- THE TIED CARD OF 'byroadlaw16.ValidLater'. -/
def validLaterCard : Claim7 := { stood := { row := validLaterRow, standIns := [], harness := (true, "0bc7d2e0acf0fb9da4db29a202a9cd852534c48334fd0d9619582aefb3a5388c"), looks := true }, kinds := [], alts := [], laidByText := true, laidKinds := [.handle], laidTests := true, laidLooks := .later }
def ValidLaterCardSaid : Prop := Claim7.holds Tryd.pinned (.plain (OpenSpec.ofChange validLaterSpec)) validLaterCard

/-- THE TIED CARD OF 'byroadlaw16.ValidPlays'. -/
def validPlaysCard : Claim7 := { stood := { row := validPlaysRow, standIns := [], harness := (true, "0bc7d2e0acf0fb9da4db29a202a9cd852534c48334fd0d9619582aefb3a5388c"), looks := true }, kinds := [], alts := [], laidByText := true, laidKinds := [.handle], laidTests := true, laidLooks := .later }
def ValidPlaysCardSaid : Prop := Claim7.holds Tryd.pinned (.plain (OpenSpec.ofChange validPlaysSpec)) validPlaysCard

/-- THE TIED CARD OF 'byroadlaw16.ValidNil'. -/
def validNilCard : Claim7 := { stood := { row := validNilRow, standIns := [], harness := (true, "0bc7d2e0acf0fb9da4db29a202a9cd852534c48334fd0d9619582aefb3a5388c"), looks := true }, kinds := [], alts := [], laidByText := true, laidKinds := [.handle], laidTests := true, laidLooks := .later }
def ValidNilCardSaid : Prop := Claim7.holds Tryd.pinned (.plain (OpenSpec.ofChange validNilSpec)) validNilCard

/-- THE SECOND FORM's CARD OF 'byroadlaw16.ValidLater'. -/
def validLaterUptoCard : Claim7 := { stood := { row := validLaterUptoRow, standIns := [], harness := (true, "0bc7d2e0acf0fb9da4db29a202a9cd852534c48334fd0d9619582aefb3a5388c"), looks := true }, kinds := [], alts := [], laidByText := true, laidKinds := [.handle], laidTests := true, laidLooks := .later }
def ValidLaterUptoCardSaid : Prop := Claim7.holds Tryd.pinned (.plain (OpenSpec.upto validLaterSpec)) validLaterUptoCard

/-- THE SECOND FORM's CARD OF 'byroadlaw16.ValidPlays'. -/
def validPlaysUptoCard : Claim7 := { stood := { row := validPlaysUptoRow, standIns := [], harness := (true, "0bc7d2e0acf0fb9da4db29a202a9cd852534c48334fd0d9619582aefb3a5388c"), looks := true }, kinds := [], alts := [], laidByText := true, laidKinds := [.handle], laidTests := true, laidLooks := .later }
def ValidPlaysUptoCardSaid : Prop := Claim7.holds Tryd.pinned (.plain (OpenSpec.upto validPlaysSpec)) validPlaysUptoCard

/-- THE SECOND FORM's CARD OF 'byroadlaw16.ValidNil'. -/
def validNilUptoCard : Claim7 := { stood := { row := validNilUptoRow, standIns := [], harness := (true, "0bc7d2e0acf0fb9da4db29a202a9cd852534c48334fd0d9619582aefb3a5388c"), looks := true }, kinds := [], alts := [], laidByText := true, laidKinds := [.handle], laidTests := true, laidLooks := .later }
def ValidNilUptoCardSaid : Prop := Claim7.holds Tryd.pinned (.plain (OpenSpec.upto validNilSpec)) validNilUptoCard
end Rows
end Go.Proofs.YtkfciofpbnlmeaaDoor
