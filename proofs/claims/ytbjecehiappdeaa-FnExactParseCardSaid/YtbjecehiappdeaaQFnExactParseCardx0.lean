-- This session's own text, written by a program of its own (wip/ownprint.sh: the kit's printer with this session's changes and hand-typed contracts). Lean checks it.
import Derived.Test.YtbjecehiappdeaaProg
import Derived.Below
import Derived.Deep.Draws
import Derived.Deep.AppendLies
import Derived.Maps.AppendAt
import Derived.OwnWalk
import Derived.Laws.BytesArg
import Derived.Laws.MakeOwn
import Derived.Laws.OwnMore
import Derived.Deep.OwnRows
import Derived.Tactics
import Derived.Lib.ConvBytes
import Derived.Laws.Slices
import Derived.WalkKit
import Derived.KernelRfl
import Derived.RowKit3
import Derived.Deep.LoopGhost
import Derived.Deep.QuietTactic
import Derived.BigQuiet
import Derived.WideLaws
import Derived.Deep.DeepCutAuto
import Derived.Deep.CutBlock
import Derived.Deep.RegionHeld3
import Derived.Laws.Rows
import Derived.Lib.AppendStr
import Derived.ArgAppend
import Derived.Laws.IdiomCopy
import Derived.OrdersHeld
import Derived.Laws.BitsLemmas
import Derived.RowKit
import Derived.Deep.WholeRow
import Derived.Test.YtbjecehiappdeaaMyShelf
import Derived.Test.YtbjecehiappdeaaWWords
import Derived.Test.YtbjecehiappdeaaWLast
import Derived.Test.YtbjecehiappdeaaWTab
import Derived.Test.YtbjecehiappdeaaWFour
import Derived.Test.YtbjecehiappdeaaWQPut
import Derived.Test.YtbjecehiappdeaaWApart
import Derived.Test.YtbjecehiappdeaaWArr
import Derived.Test.YtbjecehiappdeaaWZeros
import Derived.Test.YtbjecehiappdeaaWFoot
import Derived.Test.YtbjecehiappdeaaWKept
import Derived.Test.YtbjecehiappdeaaWShare
import Derived.Test.YtbjecehiappdeaaWN
import Derived.Test.YtbjecehiappdeaaWFootNe
import Derived.Test.YtbjecehiappdeaaWAt
import Derived.Test.YtbjecehiappdeaaWEqStruct
import Derived.Test.YtbjecehiappdeaaWRepsOne
import Derived.Test.YtbjecehiappdeaaWInv
import Derived.Test.YtbjecehiappdeaaWInvWords
import Derived.Test.YtbjecehiappdeaaWGuard
import Derived.Test.YtbjecehiappdeaaWNEv
import Derived.Test.YtbjecehiappdeaaWMore
namespace Go.Proofs.Ytbjecehiappdeaa.QFnExactParseCard
open Go.RowKit Go.Proofs.YtbjecehiappdeaaW.PrintWords Go.Proofs.YtbjecehiappdeaaW.PrintLast Go.Proofs.YtbjecehiappdeaaW.PrintMore
attribute [local go_sem] max2_int min2_int max_two min_two max_three min_three max_four min_four   -- for this text's walks alone
set_option linter.unusedVariables false
set_option linter.unusedSimpArgs false



def errW : Option Int → Value
  | none => .nilIface
  | some c => .iface 0 (.int .i64 c)
theorem errW_none : errW none = .nilIface := rfl
theorem errW_some (c : Int) : errW (some c) = .iface 0 (.int .i64 c) := rfl

-- the values' own types

end Go.Proofs.Ytbjecehiappdeaa.QFnExactParseCard
