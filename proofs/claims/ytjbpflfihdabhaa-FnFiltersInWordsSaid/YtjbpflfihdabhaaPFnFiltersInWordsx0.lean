-- printed by a program of this claim's own
import Derived.Test.YtjbpflfihdabhaaProg
import Derived.Below
import Derived.Deep.Draws
import Derived.Deep.AppendLies
import Derived.Maps.AppendAt
import Derived.OwnWalk
import Derived.Laws.BytesArg
import Derived.Laws.MakeOwn
import Derived.Laws.OwnMore
import Derived.Deep.OwnRows
import Derived.Tactics
import Derived.Lib.ConvBytes
import Derived.Laws.Slices
import Derived.WalkKit
import Derived.KernelRfl
import Derived.RowKit3
import Derived.Deep.LoopGhost
import Derived.Deep.QuietTactic
import Derived.BigQuiet
import Derived.WideLaws
import Derived.Deep.DeepCutAuto
import Derived.Deep.CutBlock
import Derived.Deep.RegionHeld3
import Derived.Laws.Rows
import Derived.Lib.AppendStr
import Derived.ArgAppend
import Derived.Laws.IdiomCopy
import Derived.OrdersHeld
import Derived.Laws.BitsLemmas
import Derived.RowKit
import Derived.Test.YtjbpflfihdabhaaWWords
import Derived.Test.YtjbpflfihdabhaaWLast
import Derived.Test.YtjbpflfihdabhaaWTab
import Derived.Test.YtjbpflfihdabhaaWFour
import Derived.Test.YtjbpflfihdabhaaWQPut
import Derived.Test.YtjbpflfihdabhaaWApart
import Derived.Test.YtjbpflfihdabhaaWArr
import Derived.Test.YtjbpflfihdabhaaWZeros
import Derived.Test.YtjbpflfihdabhaaWFoot
import Derived.Test.YtjbpflfihdabhaaWKept
import Derived.Test.YtjbpflfihdabhaaWShare
import Derived.Test.YtjbpflfihdabhaaWN
import Derived.Test.YtjbpflfihdabhaaWFootNe
import Derived.Test.YtjbpflfihdabhaaWAt
import Derived.Test.YtjbpflfihdabhaaWEqStruct
import Derived.Test.YtjbpflfihdabhaaWRepsOne
import Derived.Test.YtjbpflfihdabhaaWInv
import Derived.Test.YtjbpflfihdabhaaWInvWords
import Derived.Test.YtjbpflfihdabhaaWGuard
import Derived.Test.YtjbpflfihdabhaaWNEv
import Derived.Test.YtjbpflfihdabhaaWMore
import Derived.Test.YtjbpflfihdabhaaCuts
namespace Go.Proofs.Ytjbpflfihdabhaa.PFnFiltersInWords
open Go.RowKit Go.Proofs.YtjbpflfihdabhaaW.PrintWords Go.Proofs.YtjbpflfihdabhaaW.PrintLast Go.Proofs.YtjbpflfihdabhaaW.PrintMore Go.Proofs.Ytjbpflfihdabhaa.Cuts
attribute [local go_sem] max2_int min2_int max_two min_two max_three min_three max_four min_four   -- for this text's walks alone
set_option linter.unusedVariables false
set_option linter.unusedSimpArgs false



def errW : Option Int → Value
  | none => .nilIface
  | some c => .iface 0 (.int .i64 c)
theorem errW_none : errW none = .nilIface := rfl
theorem errW_some (c : Int) : errW (some c) = .iface 0 (.int .i64 c) := rfl

theorem info3 : (Try.prog.info? 3).map (fun i => (i.zero, i.size, i.bytes)) = some (some (.int .i64 0), 1, 8) := by kernel_rfl
-- the values' own types

end Go.Proofs.Ytjbpflfihdabhaa.PFnFiltersInWords
