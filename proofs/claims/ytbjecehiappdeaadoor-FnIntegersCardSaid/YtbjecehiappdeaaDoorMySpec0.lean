-- The words ahead of it: written by the kit's printer (print.sh). Lean checks it.
import Derived.Test.YtbjecehiappdeaaDoorProg
import Derived.Below
import Derived.Deep.Draws
import Derived.Deep.AppendLies
import Derived.Maps.AppendAt
import Derived.OwnWalk
import Derived.Laws.BytesArg
import Derived.Laws.MakeOwn
import Derived.Laws.OwnMore
import Derived.Deep.OwnRows
import Derived.Tactics
import Derived.Lib.ConvBytes
import Derived.Laws.Slices
import Derived.WalkKit
import Derived.KernelRfl
import Derived.RowKit3
import Derived.Deep.LoopGhost
import Derived.Deep.QuietTactic
import Derived.BigQuiet
import Derived.WideLaws
import Derived.Deep.DeepCutAuto
import Derived.Deep.CutBlock
import Derived.Deep.RegionHeld3
import Derived.Laws.Rows
import Derived.Lib.AppendStr
import Derived.ArgAppend
import Derived.Laws.IdiomCopy
import Derived.OrdersHeld
import Derived.Laws.BitsLemmas
import Derived.RowKit
import Derived.Test.YtbjecehiappdeaaDoorWWords
import Derived.Test.YtbjecehiappdeaaDoorWLast
import Derived.Test.YtbjecehiappdeaaDoorWTab
import Derived.Test.YtbjecehiappdeaaDoorWFour
import Derived.Test.YtbjecehiappdeaaDoorWQPut
import Derived.Test.YtbjecehiappdeaaDoorWApart
import Derived.Test.YtbjecehiappdeaaDoorWArr
import Derived.Test.YtbjecehiappdeaaDoorWZeros
import Derived.Test.YtbjecehiappdeaaDoorWFoot
import Derived.Test.YtbjecehiappdeaaDoorWKept
import Derived.Test.YtbjecehiappdeaaDoorWShare
import Derived.Test.YtbjecehiappdeaaDoorWN
import Derived.Test.YtbjecehiappdeaaDoorWFootNe
import Derived.Test.YtbjecehiappdeaaDoorWAt
import Derived.Test.YtbjecehiappdeaaDoorWEqStruct
import Derived.Test.YtbjecehiappdeaaDoorWRepsOne
import Derived.Test.YtbjecehiappdeaaDoorWInv
import Derived.Test.YtbjecehiappdeaaDoorWInvWords
import Derived.Test.YtbjecehiappdeaaDoorWGuard
import Derived.Test.YtbjecehiappdeaaDoorWNEv
import Derived.Test.YtbjecehiappdeaaDoorWMore
namespace Go.Proofs.YtbjecehiappdeaaDoor.MySpec
open Go.RowKit Go.Proofs.YtbjecehiappdeaaDoorW.PrintWords Go.Proofs.YtbjecehiappdeaaDoorW.PrintLast Go.Proofs.YtbjecehiappdeaaDoorW.PrintMore
attribute [local go_sem] max2_int min2_int max_two min_two max_three min_three max_four min_four   -- for this text's walks alone
set_option linter.unusedVariables false
set_option linter.unusedSimpArgs false



def errW : Option Int → Value
  | none => .nilIface
  | some c => .iface 50 (.int .i64 c)
theorem errW_none : errW none = .nilIface := rfl
theorem errW_some (c : Int) : errW (some c) = .iface 50 (.int .i64 c) := rfl

theorem info5 : (Tryd.prog.info? 5).map (fun i => (i.zero, i.size, i.bytes)) = some (some (.int .u8 0), 1, 1) := by kernel_rfl
-- the values' own types

end Go.Proofs.YtbjecehiappdeaaDoor.MySpec
