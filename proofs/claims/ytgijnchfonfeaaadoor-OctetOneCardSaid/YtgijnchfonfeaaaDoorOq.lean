/- Package octet: the reader's Yes and Strs. -/
import Derived.Test.YtgijnchfonfeaaaDoorOj
namespace Go.Proofs.YtgijnchfonfeaaaDoor
open Go.Proofs.BL Go.Proofs.Peel Go.RowKit
set_option maxRecDepth 100000
set_option linter.unusedVariables false

def rdYes (bs : List UInt8) (a : Nat) (c : List Lk) : Bool × Nat × List Lk :=
  if c = [] then (match bs.drop a with | x :: _ => if 1 < x.toNat then (false, a, bad6 a) else (x.toNat == 1, a + 1, []) | [] => (false, a, bad6 a)) else (false, a, c)

end Go.Proofs.YtgijnchfonfeaaaDoor
