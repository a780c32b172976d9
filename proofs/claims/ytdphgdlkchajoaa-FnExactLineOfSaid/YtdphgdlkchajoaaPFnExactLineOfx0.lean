/- The machine's side of this law: written by the kit's print program as changed by this session's wip/patch.py (functions that the print does not take are proved by hand in between). -/
import Derived.Test.YtdphgdlkchajoaaProg
import Derived.Lib.Strings
import Derived.Lib.Slices
import Derived.Lib.Walk
import Derived.Lib.Bytealg
import Derived.Below
import Derived.Deep.Draws
import Derived.Deep.AppendLies
import Derived.Maps.AppendAt
import Derived.OwnWalk
import Derived.Laws.BytesArg
import Derived.Laws.MakeOwn
import Derived.Laws.OwnMore
import Derived.Deep.OwnRows
import Derived.Tactics
import Derived.Lib.ConvBytes
import Derived.Laws.Slices
import Derived.WalkKit
import Derived.KernelRfl
import Derived.RowKit3
import Derived.Deep.LoopGhost
import Derived.Deep.QuietTactic
import Derived.BigQuiet
import Derived.WideLaws
import Derived.Deep.DeepCutAuto
import Derived.Deep.CutBlock
import Derived.Deep.RegionHeld3
import Derived.Laws.Rows
import Derived.Lib.AppendStr
import Derived.ArgAppend
import Derived.Laws.IdiomCopy
import Derived.OrdersHeld
import Derived.Laws.BitsLemmas
import Derived.RowKit
import Derived.Test.YtdphgdlkchajoaaWWords
import Derived.Test.YtdphgdlkchajoaaWLast
import Derived.Test.YtdphgdlkchajoaaWTab
import Derived.Test.YtdphgdlkchajoaaWFour
import Derived.Test.YtdphgdlkchajoaaWQPut
import Derived.Test.YtdphgdlkchajoaaWApart
import Derived.Test.YtdphgdlkchajoaaWArr
import Derived.Test.YtdphgdlkchajoaaWZeros
import Derived.Test.YtdphgdlkchajoaaWFoot
import Derived.Test.YtdphgdlkchajoaaWKept
import Derived.Test.YtdphgdlkchajoaaWShare
import Derived.Test.YtdphgdlkchajoaaWN
import Derived.Test.YtdphgdlkchajoaaWFootNe
import Derived.Test.YtdphgdlkchajoaaWAt
import Derived.Test.YtdphgdlkchajoaaWEqStruct
import Derived.Test.YtdphgdlkchajoaaWRepsOne
import Derived.Test.YtdphgdlkchajoaaWInv
import Derived.Test.YtdphgdlkchajoaaWInvWords
import Derived.Test.YtdphgdlkchajoaaWGuard
import Derived.Test.YtdphgdlkchajoaaWNEv
import Derived.Test.YtdphgdlkchajoaaWMore
namespace Go.Proofs.Ytdphgdlkchajoaa.PFnExactLineOf
open Go.RowKit Go.Proofs.YtdphgdlkchajoaaW.PrintWords Go.Proofs.YtdphgdlkchajoaaW.PrintLast Go.Proofs.YtdphgdlkchajoaaW.PrintMore
attribute [local go_sem] max2_int min2_int max_two min_two max_three min_three max_four min_four   -- for this text's walks alone
set_option linter.unusedVariables false
set_option linter.unusedSimpArgs false



def errW : Option Int → Value
  | none => .nilIface
  | some c => .iface 0 (.int .i64 c)
theorem errW_none : errW none = .nilIface := rfl
theorem errW_some (c : Int) : errW (some c) = .iface 0 (.int .i64 c) := rfl

-- the values' own types

end Go.Proofs.Ytdphgdlkchajoaa.PFnExactLineOf
