/-
  No cell of these rows narrows 'for every input' (looked for: loops, veiled, ifaces, maps, wideKeys, modest, calm, conditions, laid).
  DERIVED. THE GIVEN ROWS OF THIS SEAT. 5 by the template 'for every input the law returns true; each argument reads behind the call as it read before'; 0 by the template 'total and deterministic' (their statements: YtoimhigpbmabeaaTotals.lean).
  GIVEN WITH THE SEED: the statements are not yours to turn. If you find one false, say at which input.
  Laid BY PROGRAM, IN A SANDBOX (cutbox-rows.mjs): the forced cells as the released guide's own fill.sh prints them over the translation 60d89c0fcee477ed… (all of the seat's roots in one cut). By AI agents, Wed Nov 11 2026. No macro, syntax, notation, axiom, sorry.
-/
import Derived.Test.YtoimhigpbmabeaaChecked
import GoSem.Claim
import GoSem.ClaimJoined
import GoSem.ClaimMapViews
import Derived.JoinedTies
import Derived.KernelRfl
namespace Go.Proofs.Ytoimhigpbmabeaa
/- THE CELL 'sum', in the pinned program and in every row, IS THE sha256 OF THE DUMP (.gsa) THAT YtoimhigpbmabeaaProg.lean LOADS. Nothing in Lean hashes anything: it is a label: what it is worth is what the hold of that sum in a sandbox is worth. -/
noncomputable def Try.pinned : Pinned := { name := "ytoimhigpbmabeaa", sum := "60d89c0fcee477edf4d8b63f033dfc0d3ee6d6fdaad623b9ac3c4357a5ab9277", checked := Try.checked }
namespace Rows
def none {H : Type} : Left H := { results := [], args := [] }

/-- 'byroadlaw10.WaitTells': WHATEVER THE INPUT: true; the input reads as it did. -/
def waitTellsSpec : ChangeSpec := { name := "waitTells", fn := fun _ => fun
  | [d1, d2] => { results := [.lit (.bool true)], args := [d1, d2] }
  | _ => none }
def waitTellsRow : OpenClaim := { program := "ytoimhigpbmabeaa", sum := "60d89c0fcee477edf4d8b63f033dfc0d3ee6d6fdaad623b9ac3c4357a5ab9277", func := "byroad/byroadlaw10.WaitTells", spec := "waitTells", unfollowed := true, recurses := true, apart := false }
def WaitTellsSaid : Prop := waitTellsRow.holds Try.pinned (OpenSpec.ofChange waitTellsSpec)

/-- ITS FALSE NEIGHBOUR: 'it returns false'. Refute it at one input. -/
def waitTellsWrong : ChangeSpec := { name := "waitTells", fn := fun _ => fun
  | [d1, d2] => { results := [.lit (.bool false)], args := [d1, d2] }
  | _ => none }
def WaitTellsWrongFalsely : Prop := waitTellsRow.holds Try.pinned (OpenSpec.ofChange waitTellsWrong)

/-- 'byroadlaw10.WaitLess': WHATEVER THE INPUT: true; the input reads as it did. -/
def waitLessSpec : ChangeSpec := { name := "waitLess", fn := fun _ => fun
  | [d] => { results := [.lit (.bool true)], args := [d] }
  | _ => none }
def waitLessRow : OpenClaim := { program := "ytoimhigpbmabeaa", sum := "60d89c0fcee477edf4d8b63f033dfc0d3ee6d6fdaad623b9ac3c4357a5ab9277", func := "byroad/byroadlaw10.WaitLess", spec := "waitLess", unfollowed := true, recurses := true, apart := false }
def WaitLessSaid : Prop := waitLessRow.holds Try.pinned (OpenSpec.ofChange waitLessSpec)

/-- ITS FALSE NEIGHBOUR: 'it returns false'. Refute it at one input. -/
def waitLessWrong : ChangeSpec := { name := "waitLess", fn := fun _ => fun
  | [d] => { results := [.lit (.bool false)], args := [d] }
  | _ => none }
def WaitLessWrongFalsely : Prop := waitLessRow.holds Try.pinned (OpenSpec.ofChange waitLessWrong)

/-- 'byroadlaw10.WaitSame': WHATEVER THE INPUT: true; the input reads as it did. -/
def waitSameSpec : ChangeSpec := { name := "waitSame", fn := fun _ => fun
  | [d1, d2, d3] => { results := [.lit (.bool true)], args := [d1, d2, d3] }
  | _ => none }
def waitSameRow : OpenClaim := { program := "ytoimhigpbmabeaa", sum := "60d89c0fcee477edf4d8b63f033dfc0d3ee6d6fdaad623b9ac3c4357a5ab9277", func := "byroad/byroadlaw10.WaitSame", spec := "waitSame", unfollowed := true, recurses := true, apart := false }
def WaitSameSaid : Prop := waitSameRow.holds Try.pinned (OpenSpec.ofChange waitSameSpec)

/-- ITS FALSE NEIGHBOUR: 'it returns false'. Refute it at one input. -/
def waitSameWrong : ChangeSpec := { name := "waitSame", fn := fun _ => fun
  | [d1, d2, d3] => { results := [.lit (.bool false)], args := [d1, d2, d3] }
  | _ => none }
def WaitSameWrongFalsely : Prop := waitSameRow.holds Try.pinned (OpenSpec.ofChange waitSameWrong)

/-- 'byroadlaw10.WaitOrders': WHATEVER THE INPUT: true; the input reads as it did. -/
def waitOrdersSpec : ChangeSpec := { name := "waitOrders", fn := fun _ => fun
  | [d] => { results := [.lit (.bool true)], args := [d] }
  | _ => none }
def waitOrdersRow : OpenClaim := { program := "ytoimhigpbmabeaa", sum := "60d89c0fcee477edf4d8b63f033dfc0d3ee6d6fdaad623b9ac3c4357a5ab9277", func := "byroad/byroadlaw10.WaitOrders", spec := "waitOrders", unfollowed := true, recurses := true, apart := false }
def WaitOrdersSaid : Prop := waitOrdersRow.holds Try.pinned (OpenSpec.ofChange waitOrdersSpec)

/-- ITS FALSE NEIGHBOUR: 'it returns false'. Refute it at one input. -/
def waitOrdersWrong : ChangeSpec := { name := "waitOrders", fn := fun _ => fun
  | [d] => { results := [.lit (.bool false)], args := [d] }
  | _ => none }
def WaitOrdersWrongFalsely : Prop := waitOrdersRow.holds Try.pinned (OpenSpec.ofChange waitOrdersWrong)

/-- 'byroadlaw10.WaitReaches': WHATEVER THE INPUT: true; the input reads as it did. -/
def waitReachesSpec : ChangeSpec := { name := "waitReaches", fn := fun _ => fun
  | [d1, d2] => { results := [.lit (.bool true)], args := [d1, d2] }
  | _ => none }
def waitReachesRow : OpenClaim := { program := "ytoimhigpbmabeaa", sum := "60d89c0fcee477edf4d8b63f033dfc0d3ee6d6fdaad623b9ac3c4357a5ab9277", func := "byroad/byroadlaw10.WaitReaches", spec := "waitReaches", unfollowed := true, recurses := true, apart := false }
def WaitReachesSaid : Prop := waitReachesRow.holds Try.pinned (OpenSpec.ofChange waitReachesSpec)

/-- ITS FALSE NEIGHBOUR: 'it returns false'. Refute it at one input. -/
def waitReachesWrong : ChangeSpec := { name := "waitReaches", fn := fun _ => fun
  | [d1, d2] => { results := [.lit (.bool false)], args := [d1, d2] }
  | _ => none }
def WaitReachesWrongFalsely : Prop := waitReachesRow.holds Try.pinned (OpenSpec.ofChange waitReachesWrong)

/- THE SECOND FORM. 'bulk': how many values and letters a reading holds, each counted each time it is reached (what is shared counts as often as it is met; a slice's spare places count too). A statement '..UptoSaid' is the law's where the arguments, and the package variables that the reading takes, are together of bulk at most 1048576: NARROWER than '..Said'. Prove '..Said' where nothing that the law and all that it calls make is longer than what came in: it says more and counts as full. Else prove '..UptoSaid'. A law counts once. -/
mutual
def uptoBulk {H : Type} : DataW H → Nat
  | .lit (.string bytes) => bytes.length + 1
  | .lit _ => 1
  | .nil => 1
  | .ptr d => uptoBulk d + 1
  | .slice elems spare => uptoBulkAll elems + uptoBulkAll spare + 1
  | .agg parts => uptoBulkAll parts + 1
  | .iface _ d => uptoBulk d + 1
  | .map entries => uptoBulkEntries entries + 1
  | .held _ => 1
def uptoBulkAll {H : Type} : List (DataW H) → Nat
  | [] => 0
  | d :: r => uptoBulk d + uptoBulkAll r
def uptoBulkEntries {H : Type} : List (Lit × DataW H) → Nat
  | [] => 0
  | x :: r => uptoBulkEntry x + uptoBulkEntries r
def uptoBulkEntry {H : Type} : Lit × DataW H → Nat
  | (.string bytes, d) => bytes.length + uptoBulk d + 1
  | (_, d) => uptoBulk d + 1
 end
def uptoSmall : (H : Type) → List (DataW H) → Bool := fun _ ds => decide (uptoBulkAll ds ≤ 1048576)
def OpenSpec.upto (s : _root_.Go.ChangeSpec) : _root_.Go.OpenSpec := { _root_.Go.OpenSpec.ofChange s with cond := some uptoSmall }

/-- 'byroadlaw10.WaitTells', WHERE WHAT IT READS IS OF BULK AT MOST 1048576: true; the input reads as it did. -/
def waitTellsUptoRow : OpenClaim := { program := "ytoimhigpbmabeaa", sum := "60d89c0fcee477edf4d8b63f033dfc0d3ee6d6fdaad623b9ac3c4357a5ab9277", func := "byroad/byroadlaw10.WaitTells", spec := "waitTells", unfollowed := true, recurses := true, apart := false, narrowed := true }
def WaitTellsUptoSaid : Prop := waitTellsUptoRow.holds Try.pinned (OpenSpec.upto waitTellsSpec)

/-- 'byroadlaw10.WaitLess', WHERE WHAT IT READS IS OF BULK AT MOST 1048576: true; the input reads as it did. -/
def waitLessUptoRow : OpenClaim := { program := "ytoimhigpbmabeaa", sum := "60d89c0fcee477edf4d8b63f033dfc0d3ee6d6fdaad623b9ac3c4357a5ab9277", func := "byroad/byroadlaw10.WaitLess", spec := "waitLess", unfollowed := true, recurses := true, apart := false, narrowed := true }
def WaitLessUptoSaid : Prop := waitLessUptoRow.holds Try.pinned (OpenSpec.upto waitLessSpec)

/-- 'byroadlaw10.WaitSame', WHERE WHAT IT READS IS OF BULK AT MOST 1048576: true; the input reads as it did. -/
def waitSameUptoRow : OpenClaim := { program := "ytoimhigpbmabeaa", sum := "60d89c0fcee477edf4d8b63f033dfc0d3ee6d6fdaad623b9ac3c4357a5ab9277", func := "byroad/byroadlaw10.WaitSame", spec := "waitSame", unfollowed := true, recurses := true, apart := false, narrowed := true }
def WaitSameUptoSaid : Prop := waitSameUptoRow.holds Try.pinned (OpenSpec.upto waitSameSpec)

/-- 'byroadlaw10.WaitOrders', WHERE WHAT IT READS IS OF BULK AT MOST 1048576: true; the input reads as it did. -/
def waitOrdersUptoRow : OpenClaim := { program := "ytoimhigpbmabeaa", sum := "60d89c0fcee477edf4d8b63f033dfc0d3ee6d6fdaad623b9ac3c4357a5ab9277", func := "byroad/byroadlaw10.WaitOrders", spec := "waitOrders", unfollowed := true, recurses := true, apart := false, narrowed := true }
def WaitOrdersUptoSaid : Prop := waitOrdersUptoRow.holds Try.pinned (OpenSpec.upto waitOrdersSpec)

/-- 'byroadlaw10.WaitReaches', WHERE WHAT IT READS IS OF BULK AT MOST 1048576: true; the input reads as it did. -/
def waitReachesUptoRow : OpenClaim := { program := "ytoimhigpbmabeaa", sum := "60d89c0fcee477edf4d8b63f033dfc0d3ee6d6fdaad623b9ac3c4357a5ab9277", func := "byroad/byroadlaw10.WaitReaches", spec := "waitReaches", unfollowed := true, recurses := true, apart := false, narrowed := true }
def WaitReachesUptoSaid : Prop := waitReachesUptoRow.holds Try.pinned (OpenSpec.upto waitReachesSpec)

end Rows
end Go.Proofs.Ytoimhigpbmabeaa
