/- The machine's side of this law: written by the kit's print program as changed by this session's wip/patch.py (functions that the print does not take are proved by hand in between). -/
import Derived.Test.YtgkohhjdnckdaaaProg
import Derived.Below
import Derived.Deep.Draws
import Derived.Deep.AppendLies
import Derived.Maps.AppendAt
import Derived.OwnWalk
import Derived.Laws.BytesArg
import Derived.Laws.MakeOwn
import Derived.Laws.OwnMore
import Derived.Deep.OwnRows
import Derived.Tactics
import Derived.Lib.ConvBytes
import Derived.Laws.Slices
import Derived.WalkKit
import Derived.KernelRfl
import Derived.RowKit3
import Derived.Deep.LoopGhost
import Derived.Deep.QuietTactic
import Derived.BigQuiet
import Derived.WideLaws
import Derived.Deep.DeepCutAuto
import Derived.Deep.CutBlock
import Derived.Deep.RegionHeld3
import Derived.Laws.Rows
import Derived.Lib.AppendStr
import Derived.ArgAppend
import Derived.Laws.IdiomCopy
import Derived.OrdersHeld
import Derived.Laws.BitsLemmas
import Derived.RowKit
import Derived.Test.YtgkohhjdnckdaaaWWords
import Derived.Test.YtgkohhjdnckdaaaWLast
import Derived.Test.YtgkohhjdnckdaaaWTab
import Derived.Test.YtgkohhjdnckdaaaWFour
import Derived.Test.YtgkohhjdnckdaaaWQPut
import Derived.Test.YtgkohhjdnckdaaaWApart
import Derived.Test.YtgkohhjdnckdaaaWArr
import Derived.Test.YtgkohhjdnckdaaaWZeros
import Derived.Test.YtgkohhjdnckdaaaWFoot
import Derived.Test.YtgkohhjdnckdaaaWKept
import Derived.Test.YtgkohhjdnckdaaaWShare
import Derived.Test.YtgkohhjdnckdaaaWN
import Derived.Test.YtgkohhjdnckdaaaWFootNe
import Derived.Test.YtgkohhjdnckdaaaWAt
import Derived.Test.YtgkohhjdnckdaaaWEqStruct
import Derived.Test.YtgkohhjdnckdaaaWRepsOne
import Derived.Test.YtgkohhjdnckdaaaWInv
import Derived.Test.YtgkohhjdnckdaaaWInvWords
import Derived.Test.YtgkohhjdnckdaaaWGuard
import Derived.Test.YtgkohhjdnckdaaaWNEv
import Derived.Test.YtgkohhjdnckdaaaWMore
namespace Go.Proofs.Ytgkohhjdnckdaaa.PFnExactReadName
open Go.RowKit Go.Proofs.YtgkohhjdnckdaaaW.PrintWords Go.Proofs.YtgkohhjdnckdaaaW.PrintLast Go.Proofs.YtgkohhjdnckdaaaW.PrintMore
attribute [local go_sem] max2_int min2_int max_two min_two max_three min_three max_four min_four   -- for this text's walks alone
set_option linter.unusedVariables false
set_option linter.unusedSimpArgs false



def errW : Option Int → Value
  | none => .nilIface
  | some c => .iface 0 (.int .i64 c)
theorem errW_none : errW none = .nilIface := rfl
theorem errW_some (c : Int) : errW (some c) = .iface 0 (.int .i64 c) := rfl

-- the values' own types

end Go.Proofs.Ytgkohhjdnckdaaa.PFnExactReadName
