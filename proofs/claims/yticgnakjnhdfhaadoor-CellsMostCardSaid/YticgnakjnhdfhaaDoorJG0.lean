/- Printed by wip/pg/pg.sh. -/
import Derived.Test.YticgnakjnhdfhaaDoorProg
import Derived.Below
import Derived.Deep.Draws
import Derived.Deep.AppendLies
import Derived.Maps.AppendAt
import Derived.OwnWalk
import Derived.Laws.BytesArg
import Derived.Laws.MakeOwn
import Derived.Laws.OwnMore
import Derived.Deep.OwnRows
import Derived.Tactics
import Derived.Lib.ConvBytes
import Derived.Laws.Slices
import Derived.WalkKit
import Derived.KernelRfl
import Derived.RowKit3
import Derived.Deep.LoopGhost
import Derived.Deep.QuietTactic
import Derived.BigQuiet
import Derived.WideLaws
import Derived.Deep.DeepCutAuto
import Derived.Deep.CutBlock
import Derived.Deep.RegionHeld3
import Derived.Laws.Rows
import Derived.Lib.AppendStr
import Derived.ArgAppend
import Derived.Laws.IdiomCopy
import Derived.OrdersHeld
import Derived.Laws.BitsLemmas
import Derived.RowKit
import Derived.Test.YticgnakjnhdfhaaDoorWWords
import Derived.Test.YticgnakjnhdfhaaDoorWLast
import Derived.Test.YticgnakjnhdfhaaDoorWTab
import Derived.Test.YticgnakjnhdfhaaDoorWFour
import Derived.Test.YticgnakjnhdfhaaDoorWQPut
import Derived.Test.YticgnakjnhdfhaaDoorWApart
import Derived.Test.YticgnakjnhdfhaaDoorWArr
import Derived.Test.YticgnakjnhdfhaaDoorWZeros
import Derived.Test.YticgnakjnhdfhaaDoorWFoot
import Derived.Test.YticgnakjnhdfhaaDoorWKept
import Derived.Test.YticgnakjnhdfhaaDoorWShare
import Derived.Test.YticgnakjnhdfhaaDoorWN
import Derived.Test.YticgnakjnhdfhaaDoorWFootNe
import Derived.Test.YticgnakjnhdfhaaDoorWAt
import Derived.Test.YticgnakjnhdfhaaDoorWEqStruct
import Derived.Test.YticgnakjnhdfhaaDoorWRepsOne
import Derived.Test.YticgnakjnhdfhaaDoorWInv
import Derived.Test.YticgnakjnhdfhaaDoorWInvWords
import Derived.Test.YticgnakjnhdfhaaDoorWGuard
import Derived.Test.YticgnakjnhdfhaaDoorWNEv
import Derived.Test.YticgnakjnhdfhaaDoorWMore
section
namespace Go.Proofs.YticgnakjnhdfhaaDoor.G
open Go.RowKit Go.Proofs.YticgnakjnhdfhaaDoorW.PrintWords Go.Proofs.YticgnakjnhdfhaaDoorW.PrintLast Go.Proofs.YticgnakjnhdfhaaDoorW.PrintMore
attribute [local go_sem] max2_int min2_int max_two min_two max_three min_three max_four min_four   -- for this text's walks alone
set_option linter.unusedVariables false
set_option linter.unusedSimpArgs false



def errW : Option Int → Value
  | none => .nilIface
  | some c => .iface 0 (.int .i64 c)
theorem errW_none : errW none = .nilIface := rfl
theorem errW_some (c : Int) : errW (some c) = .iface 0 (.int .i64 c) := rfl

-- the values' own types

end Go.Proofs.YticgnakjnhdfhaaDoor.G
end
