/-
  NARROWER THAN 'FOR EVERY INPUT', by the rows' own cells (each row's printed sentence says how): CellsRuns: laid · CellsPieces: laid · CellsApart: laid · CellsBack: laid · CellsMost: laid · CellsChanges: laid.
  DERIVED. THE GIVEN ROWS OF THIS SEAT. 6 by the template 'for every input the law returns true; each argument reads behind the call as it read before'; 0 by the template 'total and deterministic' (their statements: YticgnakjnhdfhaaDoorTotals.lean).
  GIVEN WITH THE SEED: the statements are not yours to turn. If you find one false, say at which input.
  Laid BY PROGRAM, IN A SANDBOX (cutbox-rows.mjs): the forced cells as the released guide's own fill.sh prints them over the translation 92b5bd2c5abf4ab6… (all of the seat's roots in one cut). By AI agents, Wed Nov 11 2026. No macro, syntax, notation, axiom, sorry.
-/
import Derived.Test.YticgnakjnhdfhaaDoorChecked
import GoSem.Claim
import GoSem.ClaimJoined
import GoSem.ClaimMapViews
import Derived.JoinedTies
import Derived.KernelRfl
namespace Go.Proofs.YticgnakjnhdfhaaDoor
/- THE CELL 'sum', in the pinned program and in every row, IS THE sha256 OF THE DUMP (.gsa) THAT YticgnakjnhdfhaaDoorProg.lean LOADS. Nothing in Lean hashes anything: it is a label: what it is worth is what the hold of that sum in a sandbox is worth. -/
noncomputable def Tryd.pinned : Pinned := { name := "yticgnakjnhdfhaadoor", sum := "92b5bd2c5abf4ab690f7ce0327916c7864f6b22a7c3a09b522a04ac5da8c1eb5", checked := Tryd.checked }
namespace Rows
def none {H : Type} : Left H := { results := [], args := [] }

/- WHAT THE LISTED PACKAGE-LEVEL VARIABLES READ AS WHEN THE CALL BEGINS. Each datum BY PROGRAM (the guide's laid-datum.mjs) off the statement by which the dump's own 'gosem.cut.vars' lays the variable. In a bare row this is a premise. The card (YticgnakjnhdfhaaDoorCards.lean) ties it to the program's text. -/
def laid_errors_errorType {H : Type} : DataW H := .iface "internal/reflectlite.rtype" (.agg [.ptr (.lit (.string [101, 114, 114, 111, 114]))])

/-- 'byroadlaw07.CellsRuns': WHATEVER THE INPUT: true; the input reads as it did. -/
def cellsRunsSpec : ChangeSpec := { name := "cellsRuns", fn := fun _ => fun
  | [d1, d2] => { results := [.lit (.bool true)], args := [d1, d2] }
  | _ => none }
def cellsRunsRow : OpenClaim := { program := "yticgnakjnhdfhaadoor", sum := "92b5bd2c5abf4ab690f7ce0327916c7864f6b22a7c3a09b522a04ac5da8c1eb5", func := "byroad/byroadlaw07.CellsRuns", spec := "cellsRuns", inPlace := ["internal/bytealg.abigen_runtime_cmpstring", "slices.overlaps[byroad/api.Row]", "internal/reflectlite.ValueOf", "(internal/reflectlite.Value).Type", "(internal/reflectlite.Value).IsNil", "internal/reflectlite.TypeOf", "(internal/reflectlite.Value).Elem", "(internal/reflectlite.Value).Set"], unfollowed := true, recurses := true, named := ["errors.errorType"], apart := false, laid := [("errors.errorType", laid_errors_errorType)] }
def CellsRunsSaid : Prop := cellsRunsRow.holds Tryd.pinned (OpenSpec.ofChange cellsRunsSpec)

/-- ITS FALSE NEIGHBOUR: 'it returns false'. Refute it at one input. -/
def cellsRunsWrong : ChangeSpec := { name := "cellsRuns", fn := fun _ => fun
  | [d1, d2] => { results := [.lit (.bool false)], args := [d1, d2] }
  | _ => none }
def CellsRunsWrongFalsely : Prop := cellsRunsRow.holds Tryd.pinned (OpenSpec.ofChange cellsRunsWrong)

/-- 'byroadlaw07.CellsPieces': WHATEVER THE INPUT: true; the input reads as it did. -/
def cellsPiecesSpec : ChangeSpec := { name := "cellsPieces", fn := fun _ => fun
  | [d1, d2, d3] => { results := [.lit (.bool true)], args := [d1, d2, d3] }
  | _ => none }
def cellsPiecesRow : OpenClaim := { program := "yticgnakjnhdfhaadoor", sum := "92b5bd2c5abf4ab690f7ce0327916c7864f6b22a7c3a09b522a04ac5da8c1eb5", func := "byroad/byroadlaw07.CellsPieces", spec := "cellsPieces", inPlace := ["internal/bytealg.abigen_runtime_cmpstring", "slices.overlaps[byroad/api.Row]", "internal/reflectlite.ValueOf", "(internal/reflectlite.Value).Type", "(internal/reflectlite.Value).IsNil", "internal/reflectlite.TypeOf", "(internal/reflectlite.Value).Elem", "(internal/reflectlite.Value).Set"], unfollowed := true, recurses := true, named := ["errors.errorType"], apart := false, laid := [("errors.errorType", laid_errors_errorType)] }
def CellsPiecesSaid : Prop := cellsPiecesRow.holds Tryd.pinned (OpenSpec.ofChange cellsPiecesSpec)

/-- ITS FALSE NEIGHBOUR: 'it returns false'. Refute it at one input. -/
def cellsPiecesWrong : ChangeSpec := { name := "cellsPieces", fn := fun _ => fun
  | [d1, d2, d3] => { results := [.lit (.bool false)], args := [d1, d2, d3] }
  | _ => none }
def CellsPiecesWrongFalsely : Prop := cellsPiecesRow.holds Tryd.pinned (OpenSpec.ofChange cellsPiecesWrong)

/-- 'byroadlaw07.CellsApart': WHATEVER THE INPUT: true; the input reads as it did. -/
def cellsApartSpec : ChangeSpec := { name := "cellsApart", fn := fun _ => fun
  | [d1, d2, d3] => { results := [.lit (.bool true)], args := [d1, d2, d3] }
  | _ => none }
def cellsApartRow : OpenClaim := { program := "yticgnakjnhdfhaadoor", sum := "92b5bd2c5abf4ab690f7ce0327916c7864f6b22a7c3a09b522a04ac5da8c1eb5", func := "byroad/byroadlaw07.CellsApart", spec := "cellsApart", inPlace := ["internal/bytealg.abigen_runtime_cmpstring", "slices.overlaps[byroad/api.Row]", "internal/reflectlite.ValueOf", "(internal/reflectlite.Value).Type", "(internal/reflectlite.Value).IsNil", "internal/reflectlite.TypeOf", "(internal/reflectlite.Value).Elem", "(internal/reflectlite.Value).Set"], unfollowed := true, recurses := true, named := ["errors.errorType"], apart := false, laid := [("errors.errorType", laid_errors_errorType)] }
def CellsApartSaid : Prop := cellsApartRow.holds Tryd.pinned (OpenSpec.ofChange cellsApartSpec)

/-- ITS FALSE NEIGHBOUR: 'it returns false'. Refute it at one input. -/
def cellsApartWrong : ChangeSpec := { name := "cellsApart", fn := fun _ => fun
  | [d1, d2, d3] => { results := [.lit (.bool false)], args := [d1, d2, d3] }
  | _ => none }
def CellsApartWrongFalsely : Prop := cellsApartRow.holds Tryd.pinned (OpenSpec.ofChange cellsApartWrong)

/-- 'byroadlaw07.CellsBack': WHATEVER THE INPUT: true; the input reads as it did. -/
def cellsBackSpec : ChangeSpec := { name := "cellsBack", fn := fun _ => fun
  | [d1, d2] => { results := [.lit (.bool true)], args := [d1, d2] }
  | _ => none }
def cellsBackRow : OpenClaim := { program := "yticgnakjnhdfhaadoor", sum := "92b5bd2c5abf4ab690f7ce0327916c7864f6b22a7c3a09b522a04ac5da8c1eb5", func := "byroad/byroadlaw07.CellsBack", spec := "cellsBack", inPlace := ["internal/bytealg.abigen_runtime_cmpstring", "slices.overlaps[byroad/api.Row]", "internal/reflectlite.ValueOf", "(internal/reflectlite.Value).Type", "(internal/reflectlite.Value).IsNil", "internal/reflectlite.TypeOf", "(internal/reflectlite.Value).Elem", "(internal/reflectlite.Value).Set"], unfollowed := true, recurses := true, named := ["errors.errorType"], apart := false, laid := [("errors.errorType", laid_errors_errorType)] }
def CellsBackSaid : Prop := cellsBackRow.holds Tryd.pinned (OpenSpec.ofChange cellsBackSpec)

/-- ITS FALSE NEIGHBOUR: 'it returns false'. Refute it at one input. -/
def cellsBackWrong : ChangeSpec := { name := "cellsBack", fn := fun _ => fun
  | [d1, d2] => { results := [.lit (.bool false)], args := [d1, d2] }
  | _ => none }
def CellsBackWrongFalsely : Prop := cellsBackRow.holds Tryd.pinned (OpenSpec.ofChange cellsBackWrong)

/-- 'byroadlaw07.CellsMost': WHATEVER THE INPUT: true; the input reads as it did. -/
def cellsMostSpec : ChangeSpec := { name := "cellsMost", fn := fun _ => fun
  | [d1, d2] => { results := [.lit (.bool true)], args := [d1, d2] }
  | _ => none }
def cellsMostRow : OpenClaim := { program := "yticgnakjnhdfhaadoor", sum := "92b5bd2c5abf4ab690f7ce0327916c7864f6b22a7c3a09b522a04ac5da8c1eb5", func := "byroad/byroadlaw07.CellsMost", spec := "cellsMost", inPlace := ["internal/bytealg.abigen_runtime_cmpstring", "slices.overlaps[byroad/api.Row]", "internal/reflectlite.ValueOf", "(internal/reflectlite.Value).Type", "(internal/reflectlite.Value).IsNil", "internal/reflectlite.TypeOf", "(internal/reflectlite.Value).Elem", "(internal/reflectlite.Value).Set"], unfollowed := true, recurses := true, named := ["errors.errorType"], apart := false, laid := [("errors.errorType", laid_errors_errorType)] }
def CellsMostSaid : Prop := cellsMostRow.holds Tryd.pinned (OpenSpec.ofChange cellsMostSpec)

/-- ITS FALSE NEIGHBOUR: 'it returns false'. Refute it at one input. -/
def cellsMostWrong : ChangeSpec := { name := "cellsMost", fn := fun _ => fun
  | [d1, d2] => { results := [.lit (.bool false)], args := [d1, d2] }
  | _ => none }
def CellsMostWrongFalsely : Prop := cellsMostRow.holds Tryd.pinned (OpenSpec.ofChange cellsMostWrong)

/-- 'byroadlaw07.CellsChanges': WHATEVER THE INPUT: true; the input reads as it did. -/
def cellsChangesSpec : ChangeSpec := { name := "cellsChanges", fn := fun _ => fun
  | [d1, d2, d3] => { results := [.lit (.bool true)], args := [d1, d2, d3] }
  | _ => none }
def cellsChangesRow : OpenClaim := { program := "yticgnakjnhdfhaadoor", sum := "92b5bd2c5abf4ab690f7ce0327916c7864f6b22a7c3a09b522a04ac5da8c1eb5", func := "byroad/byroadlaw07.CellsChanges", spec := "cellsChanges", inPlace := ["internal/bytealg.abigen_runtime_cmpstring", "slices.overlaps[byroad/api.Row]", "internal/reflectlite.ValueOf", "(internal/reflectlite.Value).Type", "(internal/reflectlite.Value).IsNil", "internal/reflectlite.TypeOf", "(internal/reflectlite.Value).Elem", "(internal/reflectlite.Value).Set"], unfollowed := true, recurses := true, named := ["errors.errorType"], apart := false, laid := [("errors.errorType", laid_errors_errorType)] }
def CellsChangesSaid : Prop := cellsChangesRow.holds Tryd.pinned (OpenSpec.ofChange cellsChangesSpec)

/-- ITS FALSE NEIGHBOUR: 'it returns false'. Refute it at one input. -/
def cellsChangesWrong : ChangeSpec := { name := "cellsChanges", fn := fun _ => fun
  | [d1, d2, d3] => { results := [.lit (.bool false)], args := [d1, d2, d3] }
  | _ => none }
def CellsChangesWrongFalsely : Prop := cellsChangesRow.holds Tryd.pinned (OpenSpec.ofChange cellsChangesWrong)

/- THE SECOND FORM. 'bulk': how many values and letters a reading holds, each counted each time it is reached (what is shared counts as often as it is met; a slice's spare places count too). A statement '..UptoSaid' is the law's where the arguments, and the package variables that the reading takes, are together of bulk at most 1048576: NARROWER than '..Said'. Prove '..Said' where nothing that the law and all that it calls make is longer than what came in: it says more and counts as full. Else prove '..UptoSaid'. A law counts once. -/
mutual
def uptoBulk {H : Type} : DataW H → Nat
  | .lit (.string bytes) => bytes.length + 1
  | .lit _ => 1
  | .nil => 1
  | .ptr d => uptoBulk d + 1
  | .slice elems spare => uptoBulkAll elems + uptoBulkAll spare + 1
  | .agg parts => uptoBulkAll parts + 1
  | .iface _ d => uptoBulk d + 1
  | .map entries => uptoBulkEntries entries + 1
  | .held _ => 1
def uptoBulkAll {H : Type} : List (DataW H) → Nat
  | [] => 0
  | d :: r => uptoBulk d + uptoBulkAll r
def uptoBulkEntries {H : Type} : List (Lit × DataW H) → Nat
  | [] => 0
  | x :: r => uptoBulkEntry x + uptoBulkEntries r
def uptoBulkEntry {H : Type} : Lit × DataW H → Nat
  | (.string bytes, d) => bytes.length + uptoBulk d + 1
  | (_, d) => uptoBulk d + 1
 end
def uptoSmall : (H : Type) → List (DataW H) → Bool := fun _ ds => decide (uptoBulkAll ds ≤ 1048576)
def OpenSpec.upto (s : _root_.Go.ChangeSpec) : _root_.Go.OpenSpec := { _root_.Go.OpenSpec.ofChange s with cond := some uptoSmall }

/-- 'byroadlaw07.CellsRuns', WHERE WHAT IT READS IS OF BULK AT MOST 1048576: true; the input reads as it did. -/
def cellsRunsUptoRow : OpenClaim := { program := "yticgnakjnhdfhaadoor", sum := "92b5bd2c5abf4ab690f7ce0327916c7864f6b22a7c3a09b522a04ac5da8c1eb5", func := "byroad/byroadlaw07.CellsRuns", spec := "cellsRuns", inPlace := ["internal/bytealg.abigen_runtime_cmpstring", "slices.overlaps[byroad/api.Row]", "internal/reflectlite.ValueOf", "(internal/reflectlite.Value).Type", "(internal/reflectlite.Value).IsNil", "internal/reflectlite.TypeOf", "(internal/reflectlite.Value).Elem", "(internal/reflectlite.Value).Set"], unfollowed := true, recurses := true, named := ["errors.errorType"], apart := false, laid := [("errors.errorType", laid_errors_errorType)], narrowed := true }
def CellsRunsUptoSaid : Prop := cellsRunsUptoRow.holds Tryd.pinned (OpenSpec.upto cellsRunsSpec)

/-- 'byroadlaw07.CellsPieces', WHERE WHAT IT READS IS OF BULK AT MOST 1048576: true; the input reads as it did. -/
def cellsPiecesUptoRow : OpenClaim := { program := "yticgnakjnhdfhaadoor", sum := "92b5bd2c5abf4ab690f7ce0327916c7864f6b22a7c3a09b522a04ac5da8c1eb5", func := "byroad/byroadlaw07.CellsPieces", spec := "cellsPieces", inPlace := ["internal/bytealg.abigen_runtime_cmpstring", "slices.overlaps[byroad/api.Row]", "internal/reflectlite.ValueOf", "(internal/reflectlite.Value).Type", "(internal/reflectlite.Value).IsNil", "internal/reflectlite.TypeOf", "(internal/reflectlite.Value).Elem", "(internal/reflectlite.Value).Set"], unfollowed := true, recurses := true, named := ["errors.errorType"], apart := false, laid := [("errors.errorType", laid_errors_errorType)], narrowed := true }
def CellsPiecesUptoSaid : Prop := cellsPiecesUptoRow.holds Tryd.pinned (OpenSpec.upto cellsPiecesSpec)

/-- 'byroadlaw07.CellsApart', WHERE WHAT IT READS IS OF BULK AT MOST 1048576: true; the input reads as it did. -/
def cellsApartUptoRow : OpenClaim := { program := "yticgnakjnhdfhaadoor", sum := "92b5bd2c5abf4ab690f7ce0327916c7864f6b22a7c3a09b522a04ac5da8c1eb5", func := "byroad/byroadlaw07.CellsApart", spec := "cellsApart", inPlace := ["internal/bytealg.abigen_runtime_cmpstring", "slices.overlaps[byroad/api.Row]", "internal/reflectlite.ValueOf", "(internal/reflectlite.Value).Type", "(internal/reflectlite.Value).IsNil", "internal/reflectlite.TypeOf", "(internal/reflectlite.Value).Elem", "(internal/reflectlite.Value).Set"], unfollowed := true, recurses := true, named := ["errors.errorType"], apart := false, laid := [("errors.errorType", laid_errors_errorType)], narrowed := true }
def CellsApartUptoSaid : Prop := cellsApartUptoRow.holds Tryd.pinned (OpenSpec.upto cellsApartSpec)

/-- 'byroadlaw07.CellsBack', WHERE WHAT IT READS IS OF BULK AT MOST 1048576: true; the input reads as it did. -/
def cellsBackUptoRow : OpenClaim := { program := "yticgnakjnhdfhaadoor", sum := "92b5bd2c5abf4ab690f7ce0327916c7864f6b22a7c3a09b522a04ac5da8c1eb5", func := "byroad/byroadlaw07.CellsBack", spec := "cellsBack", inPlace := ["internal/bytealg.abigen_runtime_cmpstring", "slices.overlaps[byroad/api.Row]", "internal/reflectlite.ValueOf", "(internal/reflectlite.Value).Type", "(internal/reflectlite.Value).IsNil", "internal/reflectlite.TypeOf", "(internal/reflectlite.Value).Elem", "(internal/reflectlite.Value).Set"], unfollowed := true, recurses := true, named := ["errors.errorType"], apart := false, laid := [("errors.errorType", laid_errors_errorType)], narrowed := true }
def CellsBackUptoSaid : Prop := cellsBackUptoRow.holds Tryd.pinned (OpenSpec.upto cellsBackSpec)

/-- 'byroadlaw07.CellsMost', WHERE WHAT IT READS IS OF BULK AT MOST 1048576: true; the input reads as it did. -/
def cellsMostUptoRow : OpenClaim := { program := "yticgnakjnhdfhaadoor", sum := "92b5bd2c5abf4ab690f7ce0327916c7864f6b22a7c3a09b522a04ac5da8c1eb5", func := "byroad/byroadlaw07.CellsMost", spec := "cellsMost", inPlace := ["internal/bytealg.abigen_runtime_cmpstring", "slices.overlaps[byroad/api.Row]", "internal/reflectlite.ValueOf", "(internal/reflectlite.Value).Type", "(internal/reflectlite.Value).IsNil", "internal/reflectlite.TypeOf", "(internal/reflectlite.Value).Elem", "(internal/reflectlite.Value).Set"], unfollowed := true, recurses := true, named := ["errors.errorType"], apart := false, laid := [("errors.errorType", laid_errors_errorType)], narrowed := true }
def CellsMostUptoSaid : Prop := cellsMostUptoRow.holds Tryd.pinned (OpenSpec.upto cellsMostSpec)

/-- 'byroadlaw07.CellsChanges', WHERE WHAT IT READS IS OF BULK AT MOST 1048576: true; the input reads as it did. -/
def cellsChangesUptoRow : OpenClaim := { program := "yticgnakjnhdfhaadoor", sum := "92b5bd2c5abf4ab690f7ce0327916c7864f6b22a7c3a09b522a04ac5da8c1eb5", func := "byroad/byroadlaw07.CellsChanges", spec := "cellsChanges", inPlace := ["internal/bytealg.abigen_runtime_cmpstring", "slices.overlaps[byroad/api.Row]", "internal/reflectlite.ValueOf", "(internal/reflectlite.Value).Type", "(internal/reflectlite.Value).IsNil", "internal/reflectlite.TypeOf", "(internal/reflectlite.Value).Elem", "(internal/reflectlite.Value).Set"], unfollowed := true, recurses := true, named := ["errors.errorType"], apart := false, laid := [("errors.errorType", laid_errors_errorType)], narrowed := true }
def CellsChangesUptoSaid : Prop := cellsChangesUptoRow.holds Tryd.pinned (OpenSpec.upto cellsChangesSpec)

end Rows
end Go.Proofs.YticgnakjnhdfhaaDoor
