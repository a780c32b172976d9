/- The law's counting, copying and comparing functions over any data. -/
import Derived.Test.YtmcdddghlcllbaaGreatDoorLFnTokens
import Derived.Test.YtmcdddghlcllbaaGreatDoorP0
set_option autoImplicit false
set_option linter.unusedVariables false
set_option linter.unusedSimpArgs false
namespace Go.Proofs.YtmcdddghlcllbaaGreatDoor.LawFnTokens
open Go.Proofs.YtmcdddghlcllbaaGreatDoor.Den Go.Proofs



end Go.Proofs.YtmcdddghlcllbaaGreatDoor.LawFnTokens
