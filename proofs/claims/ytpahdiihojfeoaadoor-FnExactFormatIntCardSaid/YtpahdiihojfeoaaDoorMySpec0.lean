-- The words ahead of it: written by the kit's printer (print.sh). Lean checks it.
import Derived.Test.YtpahdiihojfeoaaDoorProg
import Derived.Below
import Derived.Deep.Draws
import Derived.Deep.AppendLies
import Derived.Maps.AppendAt
import Derived.OwnWalk
import Derived.Laws.BytesArg
import Derived.Laws.MakeOwn
import Derived.Laws.OwnMore
import Derived.Deep.OwnRows
import Derived.Tactics
import Derived.Lib.ConvBytes
import Derived.Laws.Slices
import Derived.WalkKit
import Derived.KernelRfl
import Derived.RowKit3
import Derived.Deep.LoopGhost
import Derived.Deep.QuietTactic
import Derived.BigQuiet
import Derived.WideLaws
import Derived.Deep.DeepCutAuto
import Derived.Deep.CutBlock
import Derived.Deep.RegionHeld3
import Derived.Laws.Rows
import Derived.Lib.AppendStr
import Derived.ArgAppend
import Derived.Laws.IdiomCopy
import Derived.OrdersHeld
import Derived.Laws.BitsLemmas
import Derived.RowKit
import Derived.Test.YtpahdiihojfeoaaDoorWWords
import Derived.Test.YtpahdiihojfeoaaDoorWLast
import Derived.Test.YtpahdiihojfeoaaDoorWTab
import Derived.Test.YtpahdiihojfeoaaDoorWFour
import Derived.Test.YtpahdiihojfeoaaDoorWQPut
import Derived.Test.YtpahdiihojfeoaaDoorWApart
import Derived.Test.YtpahdiihojfeoaaDoorWArr
import Derived.Test.YtpahdiihojfeoaaDoorWZeros
import Derived.Test.YtpahdiihojfeoaaDoorWFoot
import Derived.Test.YtpahdiihojfeoaaDoorWKept
import Derived.Test.YtpahdiihojfeoaaDoorWShare
import Derived.Test.YtpahdiihojfeoaaDoorWN
import Derived.Test.YtpahdiihojfeoaaDoorWFootNe
import Derived.Test.YtpahdiihojfeoaaDoorWAt
import Derived.Test.YtpahdiihojfeoaaDoorWEqStruct
import Derived.Test.YtpahdiihojfeoaaDoorWRepsOne
import Derived.Test.YtpahdiihojfeoaaDoorWInv
import Derived.Test.YtpahdiihojfeoaaDoorWInvWords
import Derived.Test.YtpahdiihojfeoaaDoorWGuard
import Derived.Test.YtpahdiihojfeoaaDoorWNEv
import Derived.Test.YtpahdiihojfeoaaDoorWMore
namespace Go.Proofs.YtpahdiihojfeoaaDoor.MySpec
open Go.RowKit Go.Proofs.YtpahdiihojfeoaaDoorW.PrintWords Go.Proofs.YtpahdiihojfeoaaDoorW.PrintLast Go.Proofs.YtpahdiihojfeoaaDoorW.PrintMore
attribute [local go_sem] max2_int min2_int max_two min_two max_three min_three max_four min_four   -- for this text's walks alone
set_option linter.unusedVariables false
set_option linter.unusedSimpArgs false



def errW : Option Int → Value
  | none => .nilIface
  | some c => .iface 0 (.int .i64 c)
theorem errW_none : errW none = .nilIface := rfl
theorem errW_some (c : Int) : errW (some c) = .iface 0 (.int .i64 c) := rfl

theorem info5 : (Tryd.prog.info? 5).map (fun i => (i.zero, i.size, i.bytes)) = some (some (.int .u8 0), 1, 1) := by kernel_rfl
-- the values' own types

end Go.Proofs.YtpahdiihojfeoaaDoor.MySpec
