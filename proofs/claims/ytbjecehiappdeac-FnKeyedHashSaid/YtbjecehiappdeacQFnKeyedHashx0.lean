-- This session's own text, written by a program of its own (wip/ownprint.sh: the kit's printer with this session's changes and hand-typed contracts). Lean checks it.
import Derived.Test.YtbjecehiappdeacProg
import Derived.Below
import Derived.Deep.Draws
import Derived.Deep.AppendLies
import Derived.Maps.AppendAt
import Derived.OwnWalk
import Derived.Laws.BytesArg
import Derived.Laws.MakeOwn
import Derived.Laws.OwnMore
import Derived.Deep.OwnRows
import Derived.Tactics
import Derived.Lib.ConvBytes
import Derived.Laws.Slices
import Derived.WalkKit
import Derived.KernelRfl
import Derived.RowKit3
import Derived.Deep.LoopGhost
import Derived.Deep.QuietTactic
import Derived.BigQuiet
import Derived.WideLaws
import Derived.Deep.DeepCutAuto
import Derived.Deep.CutBlock
import Derived.Deep.RegionHeld3
import Derived.Laws.Rows
import Derived.Lib.AppendStr
import Derived.ArgAppend
import Derived.Laws.IdiomCopy
import Derived.OrdersHeld
import Derived.Laws.BitsLemmas
import Derived.RowKit
import Derived.Deep.WholeRow
import Derived.Test.YtbjecehiappdeacWWords
import Derived.Test.YtbjecehiappdeacWLast
import Derived.Test.YtbjecehiappdeacWTab
import Derived.Test.YtbjecehiappdeacWFour
import Derived.Test.YtbjecehiappdeacWQPut
import Derived.Test.YtbjecehiappdeacWApart
import Derived.Test.YtbjecehiappdeacWArr
import Derived.Test.YtbjecehiappdeacWZeros
import Derived.Test.YtbjecehiappdeacWFoot
import Derived.Test.YtbjecehiappdeacWKept
import Derived.Test.YtbjecehiappdeacWShare
import Derived.Test.YtbjecehiappdeacWN
import Derived.Test.YtbjecehiappdeacWFootNe
import Derived.Test.YtbjecehiappdeacWAt
import Derived.Test.YtbjecehiappdeacWEqStruct
import Derived.Test.YtbjecehiappdeacWRepsOne
import Derived.Test.YtbjecehiappdeacWInv
import Derived.Test.YtbjecehiappdeacWInvWords
import Derived.Test.YtbjecehiappdeacWGuard
import Derived.Test.YtbjecehiappdeacWNEv
import Derived.Test.YtbjecehiappdeacWMore
namespace Go.Proofs.Ytbjecehiappdeac.QFnKeyedHash
open Go.RowKit Go.Proofs.YtbjecehiappdeacW.PrintWords Go.Proofs.YtbjecehiappdeacW.PrintLast Go.Proofs.YtbjecehiappdeacW.PrintMore
attribute [local go_sem] max2_int min2_int max_two min_two max_three min_three max_four min_four   -- for this text's walks alone
set_option linter.unusedVariables false
set_option linter.unusedSimpArgs false



def errW : Option Int → Value
  | none => .nilIface
  | some c => .iface 0 (.int .i64 c)
theorem errW_none : errW none = .nilIface := rfl
theorem errW_some (c : Int) : errW (some c) = .iface 0 (.int .i64 c) := rfl

theorem info3 : (Try.prog.info? 3).map (fun i => (i.zero, i.size, i.bytes)) = some (some (.int .i64 0), 1, 8) := by kernel_rfl
theorem info9 : (Try.prog.info? 9).map (fun i => (i.zero, i.size, i.bytes)) = some (some (.string ⟨#[]⟩), 1, 16) := by kernel_rfl
-- the values' own types

end Go.Proofs.Ytbjecehiappdeac.QFnKeyedHash
