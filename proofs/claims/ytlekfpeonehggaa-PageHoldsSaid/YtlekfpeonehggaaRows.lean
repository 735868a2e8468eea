/-
  No cell of these rows narrows 'for every input' (looked for: loops, veiled, ifaces, maps, wideKeys, modest, calm, conditions, laid).
  DERIVED. THE GIVEN ROWS OF THIS SEAT. 3 by the template 'for every input the law returns true; each argument reads behind the call as it read before'; 0 by the template 'total and deterministic' (their statements: YtlekfpeonehggaaTotals.lean).
  GIVEN WITH THE SEED: the statements are not yours to turn. If you find one false, say at which input.
  Laid BY PROGRAM, IN A SANDBOX (cutbox-rows.mjs): the forced cells as the released guide's own fill.sh prints them over the translation 4e6701b4e81502a0… (all of the seat's roots in one cut). By AI agents, Wed Nov 11 2026. No macro, syntax, notation, axiom, sorry.
-/
import Derived.Test.YtlekfpeonehggaaChecked
import GoSem.Claim
import GoSem.ClaimJoined
import GoSem.ClaimMapViews
import Derived.JoinedTies
import Derived.KernelRfl
namespace Go.Proofs.Ytlekfpeonehggaa
/- THE CELL 'sum', in the pinned program and in every row, IS THE sha256 OF THE DUMP (.gsa) THAT YtlekfpeonehggaaProg.lean LOADS. Nothing in Lean hashes anything: it is a label: what it is worth is what the hold of that sum in a sandbox is worth. -/
noncomputable def Try.pinned : Pinned := { name := "ytlekfpeonehggaa", sum := "4e6701b4e81502a04c78554f1e275a9e515cac6c9c81fa63ed4d95e23669a059", checked := Try.checked }
namespace Rows
def none {H : Type} : Left H := { results := [], args := [] }

/-- 'byroadlaw08.PageMost': WHATEVER THE INPUT: true; the input reads as it did. -/
def pageMostSpec : ChangeSpec := { name := "pageMost", fn := fun _ => fun
  | [d1, d2] => { results := [.lit (.bool true)], args := [d1, d2] }
  | _ => none }
def pageMostRow : OpenClaim := { program := "ytlekfpeonehggaa", sum := "4e6701b4e81502a04c78554f1e275a9e515cac6c9c81fa63ed4d95e23669a059", func := "byroad/byroadlaw08.PageMost", spec := "pageMost", inPlace := ["internal/bytealg.abigen_runtime_cmpstring", "slices.overlaps[byroad/api.Row]", "slices.overlaps[byroad/page.leaf]"], unfollowed := true, recurses := true, apart := false }
def PageMostSaid : Prop := pageMostRow.holds Try.pinned (OpenSpec.ofChange pageMostSpec)

/-- ITS FALSE NEIGHBOUR: 'it returns false'. Refute it at one input. -/
def pageMostWrong : ChangeSpec := { name := "pageMost", fn := fun _ => fun
  | [d1, d2] => { results := [.lit (.bool false)], args := [d1, d2] }
  | _ => none }
def PageMostWrongFalsely : Prop := pageMostRow.holds Try.pinned (OpenSpec.ofChange pageMostWrong)

/-- 'byroadlaw08.PageHolds': WHATEVER THE INPUT: true; the input reads as it did. -/
def pageHoldsSpec : ChangeSpec := { name := "pageHolds", fn := fun _ => fun
  | [d1, d2, d3] => { results := [.lit (.bool true)], args := [d1, d2, d3] }
  | _ => none }
def pageHoldsRow : OpenClaim := { program := "ytlekfpeonehggaa", sum := "4e6701b4e81502a04c78554f1e275a9e515cac6c9c81fa63ed4d95e23669a059", func := "byroad/byroadlaw08.PageHolds", spec := "pageHolds", inPlace := ["internal/bytealg.abigen_runtime_cmpstring", "slices.overlaps[byroad/api.Row]", "slices.overlaps[byroad/page.leaf]"], unfollowed := true, recurses := true, apart := false }
def PageHoldsSaid : Prop := pageHoldsRow.holds Try.pinned (OpenSpec.ofChange pageHoldsSpec)

/-- ITS FALSE NEIGHBOUR: 'it returns false'. Refute it at one input. -/
def pageHoldsWrong : ChangeSpec := { name := "pageHolds", fn := fun _ => fun
  | [d1, d2, d3] => { results := [.lit (.bool false)], args := [d1, d2, d3] }
  | _ => none }
def PageHoldsWrongFalsely : Prop := pageHoldsRow.holds Try.pinned (OpenSpec.ofChange pageHoldsWrong)

/-- 'byroadlaw08.PageNil': WHATEVER THE INPUT: true; the input reads as it did. -/
def pageNilSpec : ChangeSpec := { name := "pageNil", fn := fun _ => fun
  | [d1, d2] => { results := [.lit (.bool true)], args := [d1, d2] }
  | _ => none }
def pageNilRow : OpenClaim := { program := "ytlekfpeonehggaa", sum := "4e6701b4e81502a04c78554f1e275a9e515cac6c9c81fa63ed4d95e23669a059", func := "byroad/byroadlaw08.PageNil", spec := "pageNil", inPlace := ["internal/bytealg.abigen_runtime_cmpstring", "slices.overlaps[byroad/api.Row]", "slices.overlaps[byroad/page.leaf]"], unfollowed := true, recurses := true, apart := false }
def PageNilSaid : Prop := pageNilRow.holds Try.pinned (OpenSpec.ofChange pageNilSpec)

/-- ITS FALSE NEIGHBOUR: 'it returns false'. Refute it at one input. -/
def pageNilWrong : ChangeSpec := { name := "pageNil", fn := fun _ => fun
  | [d1, d2] => { results := [.lit (.bool false)], args := [d1, d2] }
  | _ => none }
def PageNilWrongFalsely : Prop := pageNilRow.holds Try.pinned (OpenSpec.ofChange pageNilWrong)

/- THE SECOND FORM. 'bulk': how many values and letters a reading holds, each counted each time it is reached (what is shared counts as often as it is met; a slice's spare places count too). A statement '..UptoSaid' is the law's where the arguments, and the package variables that the reading takes, are together of bulk at most 1048576: NARROWER than '..Said'. Prove '..Said' where nothing that the law and all that it calls make is longer than what came in: it says more and counts as full. Else prove '..UptoSaid'. A law counts once. -/
mutual
def uptoBulk {H : Type} : DataW H → Nat
  | .lit (.string bytes) => bytes.length + 1
  | .lit _ => 1
  | .nil => 1
  | .ptr d => uptoBulk d + 1
  | .slice elems spare => uptoBulkAll elems + uptoBulkAll spare + 1
  | .agg parts => uptoBulkAll parts + 1
  | .iface _ d => uptoBulk d + 1
  | .map entries => uptoBulkEntries entries + 1
  | .held _ => 1
def uptoBulkAll {H : Type} : List (DataW H) → Nat
  | [] => 0
  | d :: r => uptoBulk d + uptoBulkAll r
def uptoBulkEntries {H : Type} : List (Lit × DataW H) → Nat
  | [] => 0
  | x :: r => uptoBulkEntry x + uptoBulkEntries r
def uptoBulkEntry {H : Type} : Lit × DataW H → Nat
  | (.string bytes, d) => bytes.length + uptoBulk d + 1
  | (_, d) => uptoBulk d + 1
 end
def uptoSmall : (H : Type) → List (DataW H) → Bool := fun _ ds => decide (uptoBulkAll ds ≤ 1048576)
def OpenSpec.upto (s : _root_.Go.ChangeSpec) : _root_.Go.OpenSpec := { _root_.Go.OpenSpec.ofChange s with cond := some uptoSmall }

/-- 'byroadlaw08.PageMost', WHERE WHAT IT READS IS OF BULK AT MOST 1048576: true; the input reads as it did. -/
def pageMostUptoRow : OpenClaim := { program := "ytlekfpeonehggaa", sum := "4e6701b4e81502a04c78554f1e275a9e515cac6c9c81fa63ed4d95e23669a059", func := "byroad/byroadlaw08.PageMost", spec := "pageMost", inPlace := ["internal/bytealg.abigen_runtime_cmpstring", "slices.overlaps[byroad/api.Row]", "slices.overlaps[byroad/page.leaf]"], unfollowed := true, recurses := true, apart := false, narrowed := true }
def PageMostUptoSaid : Prop := pageMostUptoRow.holds Try.pinned (OpenSpec.upto pageMostSpec)

/-- 'byroadlaw08.PageHolds', WHERE WHAT IT READS IS OF BULK AT MOST 1048576: true; the input reads as it did. -/
def pageHoldsUptoRow : OpenClaim := { program := "ytlekfpeonehggaa", sum := "4e6701b4e81502a04c78554f1e275a9e515cac6c9c81fa63ed4d95e23669a059", func := "byroad/byroadlaw08.PageHolds", spec := "pageHolds", inPlace := ["internal/bytealg.abigen_runtime_cmpstring", "slices.overlaps[byroad/api.Row]", "slices.overlaps[byroad/page.leaf]"], unfollowed := true, recurses := true, apart := false, narrowed := true }
def PageHoldsUptoSaid : Prop := pageHoldsUptoRow.holds Try.pinned (OpenSpec.upto pageHoldsSpec)

/-- 'byroadlaw08.PageNil', WHERE WHAT IT READS IS OF BULK AT MOST 1048576: true; the input reads as it did. -/
def pageNilUptoRow : OpenClaim := { program := "ytlekfpeonehggaa", sum := "4e6701b4e81502a04c78554f1e275a9e515cac6c9c81fa63ed4d95e23669a059", func := "byroad/byroadlaw08.PageNil", spec := "pageNil", inPlace := ["internal/bytealg.abigen_runtime_cmpstring", "slices.overlaps[byroad/api.Row]", "slices.overlaps[byroad/page.leaf]"], unfollowed := true, recurses := true, apart := false, narrowed := true }
def PageNilUptoSaid : Prop := pageNilUptoRow.holds Try.pinned (OpenSpec.upto pageNilSpec)

end Rows
end Go.Proofs.Ytlekfpeonehggaa
