/- Printed by wip/pg/pg.sh. -/
import Derived.Test.YtigffdmpofcdgaaGreatDoorProg
import Derived.Below
import Derived.Deep.Draws
import Derived.Deep.AppendLies
import Derived.Maps.AppendAt
import Derived.OwnWalk
import Derived.Laws.BytesArg
import Derived.Laws.MakeOwn
import Derived.Laws.OwnMore
import Derived.Deep.OwnRows
import Derived.Tactics
import Derived.Lib.ConvBytes
import Derived.Laws.Slices
import Derived.WalkKit
import Derived.KernelRfl
import Derived.RowKit3
import Derived.Deep.LoopGhost
import Derived.Deep.QuietTactic
import Derived.BigQuiet
import Derived.WideLaws
import Derived.Deep.DeepCutAuto
import Derived.Deep.CutBlock
import Derived.Deep.RegionHeld3
import Derived.Laws.Rows
import Derived.Lib.AppendStr
import Derived.ArgAppend
import Derived.Laws.IdiomCopy
import Derived.OrdersHeld
import Derived.Laws.BitsLemmas
import Derived.RowKit
import Derived.Test.YtigffdmpofcdgaaGreatDoorWWords
import Derived.Test.YtigffdmpofcdgaaGreatDoorWLast
import Derived.Test.YtigffdmpofcdgaaGreatDoorWTab
import Derived.Test.YtigffdmpofcdgaaGreatDoorWFour
import Derived.Test.YtigffdmpofcdgaaGreatDoorWQPut
import Derived.Test.YtigffdmpofcdgaaGreatDoorWApart
import Derived.Test.YtigffdmpofcdgaaGreatDoorWArr
import Derived.Test.YtigffdmpofcdgaaGreatDoorWZeros
import Derived.Test.YtigffdmpofcdgaaGreatDoorWFoot
import Derived.Test.YtigffdmpofcdgaaGreatDoorWKept
import Derived.Test.YtigffdmpofcdgaaGreatDoorWShare
import Derived.Test.YtigffdmpofcdgaaGreatDoorWN
import Derived.Test.YtigffdmpofcdgaaGreatDoorWFootNe
import Derived.Test.YtigffdmpofcdgaaGreatDoorWAt
import Derived.Test.YtigffdmpofcdgaaGreatDoorWEqStruct
import Derived.Test.YtigffdmpofcdgaaGreatDoorWRepsOne
import Derived.Test.YtigffdmpofcdgaaGreatDoorWInv
import Derived.Test.YtigffdmpofcdgaaGreatDoorWInvWords
import Derived.Test.YtigffdmpofcdgaaGreatDoorWGuard
import Derived.Test.YtigffdmpofcdgaaGreatDoorWNEv
import Derived.Test.YtigffdmpofcdgaaGreatDoorWMore
section
namespace Go.Proofs.YtigffdmpofcdgaaGreatDoor.G
open Go.RowKit Go.Proofs.YtigffdmpofcdgaaGreatDoorW.PrintWords Go.Proofs.YtigffdmpofcdgaaGreatDoorW.PrintLast Go.Proofs.YtigffdmpofcdgaaGreatDoorW.PrintMore
attribute [local go_sem] max2_int min2_int max_two min_two max_three min_three max_four min_four   -- for this text's walks alone
set_option linter.unusedVariables false
set_option linter.unusedSimpArgs false



def errW : Option Int → Value
  | none => .nilIface
  | some c => .iface 0 (.int .i64 c)
theorem errW_none : errW none = .nilIface := rfl
theorem errW_some (c : Int) : errW (some c) = .iface 0 (.int .i64 c) := rfl

-- the values' own types

end Go.Proofs.YtigffdmpofcdgaaGreatDoor.G
end
