-- Written by program (mkprint.py) for this claim: the functions, and that the program computes them.
import Derived.Test.YtknlablmkcabkaaDoorProg
import Derived.Below
import Derived.Deep.Draws
import Derived.Deep.AppendLies
import Derived.Maps.AppendAt
import Derived.OwnWalk
import Derived.Laws.BytesArg
import Derived.Laws.MakeOwn
import Derived.Laws.OwnMore
import Derived.Deep.OwnRows
import Derived.Tactics
import Derived.Lib.ConvBytes
import Derived.Laws.Slices
import Derived.WalkKit
import Derived.KernelRfl
import Derived.RowKit3
import Derived.Deep.LoopGhost
import Derived.Deep.QuietTactic
import Derived.BigQuiet
import Derived.WideLaws
import Derived.Deep.DeepCutAuto
import Derived.Deep.CutBlock
import Derived.Deep.RegionHeld3
import Derived.Laws.Rows
import Derived.Lib.AppendStr
import Derived.ArgAppend
import Derived.Laws.IdiomCopy
import Derived.OrdersHeld
import Derived.Laws.BitsLemmas
import Derived.RowKit
import Derived.Test.YtknlablmkcabkaaDoorGiva
import Derived.Test.YtknlablmkcabkaaDoorWWords
import Derived.Test.YtknlablmkcabkaaDoorWLast
import Derived.Test.YtknlablmkcabkaaDoorWTab
import Derived.Test.YtknlablmkcabkaaDoorWFour
import Derived.Test.YtknlablmkcabkaaDoorWQPut
import Derived.Test.YtknlablmkcabkaaDoorWApart
import Derived.Test.YtknlablmkcabkaaDoorWArr
import Derived.Test.YtknlablmkcabkaaDoorWZeros
import Derived.Test.YtknlablmkcabkaaDoorWFoot
import Derived.Test.YtknlablmkcabkaaDoorWKept
import Derived.Test.YtknlablmkcabkaaDoorWShare
import Derived.Test.YtknlablmkcabkaaDoorWN
import Derived.Test.YtknlablmkcabkaaDoorWFootNe
import Derived.Test.YtknlablmkcabkaaDoorWAt
import Derived.Test.YtknlablmkcabkaaDoorWEqStruct
import Derived.Test.YtknlablmkcabkaaDoorWRepsOne
import Derived.Test.YtknlablmkcabkaaDoorWInv
import Derived.Test.YtknlablmkcabkaaDoorWInvWords
import Derived.Test.YtknlablmkcabkaaDoorWGuard
import Derived.Test.YtknlablmkcabkaaDoorWNEv
import Derived.Test.YtknlablmkcabkaaDoorWMore
namespace Go.Proofs.YtknlablmkcabkaaDoor.QCanonConditions
open Go.RowKit Go.Proofs.YtknlablmkcabkaaDoorW.PrintWords Go.Proofs.YtknlablmkcabkaaDoorW.PrintLast Go.Proofs.YtknlablmkcabkaaDoorW.PrintMore
attribute [local go_sem] max2_int min2_int max_two min_two max_three min_three max_four min_four   -- for this text's walks alone
set_option linter.unusedVariables false
set_option linter.unusedSimpArgs false



def errW : Option Int → Value
  | none => .nilIface
  | some c => .iface 0 (.int .i64 c)
theorem errW_none : errW none = .nilIface := rfl
theorem errW_some (c : Int) : errW (some c) = .iface 0 (.int .i64 c) := rfl

theorem info3 : (Tryd.prog.info? 3).map (fun i => (i.zero, i.size, i.bytes)) = some (some (.int .i64 0), 1, 8) := by kernel_rfl
-- the values' own types

end Go.Proofs.YtknlablmkcabkaaDoor.QCanonConditions
