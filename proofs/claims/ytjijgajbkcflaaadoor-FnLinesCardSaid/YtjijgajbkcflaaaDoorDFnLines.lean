/- The law's counting, copying and comparing functions over any data. -/
import Derived.Test.YtjijgajbkcflaaaDoorLFnLines
import Derived.Test.YtjijgajbkcflaaaDoorP0
set_option autoImplicit false
set_option linter.unusedVariables false
set_option linter.unusedSimpArgs false
namespace Go.Proofs.YtjijgajbkcflaaaDoor.LawFnLines
open Go.Proofs.YtjijgajbkcflaaaDoor.Den Go.Proofs



end Go.Proofs.YtjijgajbkcflaaaDoor.LawFnLines
