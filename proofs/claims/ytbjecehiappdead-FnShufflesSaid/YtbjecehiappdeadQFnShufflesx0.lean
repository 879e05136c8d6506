-- This session's own text, written by a program of its own (wip/ownprint.sh: the kit's printer with this session's changes and hand-typed contracts). Lean checks it.
import Derived.Test.YtbjecehiappdeadProg
import Derived.Below
import Derived.Deep.Draws
import Derived.Deep.AppendLies
import Derived.Maps.AppendAt
import Derived.OwnWalk
import Derived.Laws.BytesArg
import Derived.Laws.MakeOwn
import Derived.Laws.OwnMore
import Derived.Deep.OwnRows
import Derived.Tactics
import Derived.Lib.ConvBytes
import Derived.Laws.Slices
import Derived.WalkKit
import Derived.KernelRfl
import Derived.RowKit3
import Derived.Deep.LoopGhost
import Derived.Deep.QuietTactic
import Derived.BigQuiet
import Derived.WideLaws
import Derived.Deep.DeepCutAuto
import Derived.Deep.CutBlock
import Derived.Deep.RegionHeld3
import Derived.Laws.Rows
import Derived.Lib.AppendStr
import Derived.ArgAppend
import Derived.Laws.IdiomCopy
import Derived.OrdersHeld
import Derived.Laws.BitsLemmas
import Derived.RowKit
import Derived.Deep.WholeRow
import Derived.Laws.CopyOwn
import Derived.Deep.RegionLaw
import Derived.Test.YtbjecehiappdeadWWords
import Derived.Test.YtbjecehiappdeadWLast
import Derived.Test.YtbjecehiappdeadWTab
import Derived.Test.YtbjecehiappdeadWFour
import Derived.Test.YtbjecehiappdeadWQPut
import Derived.Test.YtbjecehiappdeadWApart
import Derived.Test.YtbjecehiappdeadWArr
import Derived.Test.YtbjecehiappdeadWZeros
import Derived.Test.YtbjecehiappdeadWFoot
import Derived.Test.YtbjecehiappdeadWKept
import Derived.Test.YtbjecehiappdeadWShare
import Derived.Test.YtbjecehiappdeadWN
import Derived.Test.YtbjecehiappdeadWFootNe
import Derived.Test.YtbjecehiappdeadWAt
import Derived.Test.YtbjecehiappdeadWEqStruct
import Derived.Test.YtbjecehiappdeadWRepsOne
import Derived.Test.YtbjecehiappdeadWInv
import Derived.Test.YtbjecehiappdeadWInvWords
import Derived.Test.YtbjecehiappdeadWGuard
import Derived.Test.YtbjecehiappdeadWNEv
import Derived.Test.YtbjecehiappdeadWMore
namespace Go.Proofs.Ytbjecehiappdead.QFnShuffles
open Go.RowKit Go.Proofs.YtbjecehiappdeadW.PrintWords Go.Proofs.YtbjecehiappdeadW.PrintLast Go.Proofs.YtbjecehiappdeadW.PrintMore
attribute [local go_sem] max2_int min2_int max_two min_two max_three min_three max_four min_four   -- for this text's walks alone
set_option linter.unusedVariables false
set_option linter.unusedSimpArgs false



def errW : Option Int → Value
  | none => .nilIface
  | some c => .iface 0 (.int .i64 c)
theorem errW_none : errW none = .nilIface := rfl
theorem errW_some (c : Int) : errW (some c) = .iface 0 (.int .i64 c) := rfl

theorem info3 : (Try.prog.info? 3).map (fun i => (i.zero, i.size, i.bytes)) = some (some (.int .i64 0), 1, 8) := by kernel_rfl
-- the values' own types

end Go.Proofs.Ytbjecehiappdead.QFnShuffles
