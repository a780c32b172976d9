/- The law's counting, copying and comparing functions over any data. -/
import Derived.Test.YtdphgdlkchajoaaDoorLFnExactNumberOf
import Derived.Test.YtdphgdlkchajoaaDoorP0
set_option autoImplicit false
set_option linter.unusedVariables false
set_option linter.unusedSimpArgs false
namespace Go.Proofs.YtdphgdlkchajoaaDoor.LawFnExactNumberOf
open Go.Proofs.YtdphgdlkchajoaaDoor.Den Go.Proofs



end Go.Proofs.YtdphgdlkchajoaaDoor.LawFnExactNumberOf
