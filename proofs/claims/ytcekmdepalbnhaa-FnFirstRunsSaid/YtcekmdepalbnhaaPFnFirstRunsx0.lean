-- printed by a program of this claim's own
import Derived.Test.YtcekmdepalbnhaaProg
import Derived.Below
import Derived.Deep.Draws
import Derived.Deep.AppendLies
import Derived.Maps.AppendAt
import Derived.OwnWalk
import Derived.Laws.BytesArg
import Derived.Laws.MakeOwn
import Derived.Laws.OwnMore
import Derived.Deep.OwnRows
import Derived.Tactics
import Derived.Lib.ConvBytes
import Derived.Laws.Slices
import Derived.WalkKit
import Derived.KernelRfl
import Derived.RowKit3
import Derived.Deep.LoopGhost
import Derived.Deep.QuietTactic
import Derived.BigQuiet
import Derived.WideLaws
import Derived.Deep.DeepCutAuto
import Derived.Deep.CutBlock
import Derived.Deep.RegionHeld3
import Derived.Laws.Rows
import Derived.Lib.AppendStr
import Derived.ArgAppend
import Derived.Laws.IdiomCopy
import Derived.OrdersHeld
import Derived.Laws.BitsLemmas
import Derived.RowKit
import Derived.Test.YtcekmdepalbnhaaWWords
import Derived.Test.YtcekmdepalbnhaaWLast
import Derived.Test.YtcekmdepalbnhaaWTab
import Derived.Test.YtcekmdepalbnhaaWFour
import Derived.Test.YtcekmdepalbnhaaWQPut
import Derived.Test.YtcekmdepalbnhaaWApart
import Derived.Test.YtcekmdepalbnhaaWArr
import Derived.Test.YtcekmdepalbnhaaWZeros
import Derived.Test.YtcekmdepalbnhaaWFoot
import Derived.Test.YtcekmdepalbnhaaWKept
import Derived.Test.YtcekmdepalbnhaaWShare
import Derived.Test.YtcekmdepalbnhaaWN
import Derived.Test.YtcekmdepalbnhaaWFootNe
import Derived.Test.YtcekmdepalbnhaaWAt
import Derived.Test.YtcekmdepalbnhaaWEqStruct
import Derived.Test.YtcekmdepalbnhaaWRepsOne
import Derived.Test.YtcekmdepalbnhaaWInv
import Derived.Test.YtcekmdepalbnhaaWInvWords
import Derived.Test.YtcekmdepalbnhaaWGuard
import Derived.Test.YtcekmdepalbnhaaWNEv
import Derived.Test.YtcekmdepalbnhaaWMore
import Derived.Test.YtcekmdepalbnhaaCuts
namespace Go.Proofs.Ytcekmdepalbnhaa.PFnFirstRuns
open Go.RowKit Go.Proofs.YtcekmdepalbnhaaW.PrintWords Go.Proofs.YtcekmdepalbnhaaW.PrintLast Go.Proofs.YtcekmdepalbnhaaW.PrintMore Go.Proofs.Ytcekmdepalbnhaa.Cuts
attribute [local go_sem] max2_int min2_int max_two min_two max_three min_three max_four min_four   -- for this text's walks alone
set_option linter.unusedVariables false
set_option linter.unusedSimpArgs false



def errW : Option Int → Value
  | none => .nilIface
  | some c => .iface 0 (.int .i64 c)
theorem errW_none : errW none = .nilIface := rfl
theorem errW_some (c : Int) : errW (some c) = .iface 0 (.int .i64 c) := rfl

theorem info3 : (Try.prog.info? 3).map (fun i => (i.zero, i.size, i.bytes)) = some (some (.int .i64 0), 1, 8) := by kernel_rfl
-- the values' own types

end Go.Proofs.Ytcekmdepalbnhaa.PFnFirstRuns
