/- The law's counting, copying and comparing functions over any data. -/
import Derived.Test.YthgpniapbeeaaaaGreatLFnFingers
import Derived.Test.YthgpniapbeeaaaaGreatP0
set_option autoImplicit false
set_option linter.unusedVariables false
set_option linter.unusedSimpArgs false
namespace Go.Proofs.YthgpniapbeeaaaaGreat.LawFnFingers
open Go.Proofs.YthgpniapbeeaaaaGreat.Den Go.Proofs



end Go.Proofs.YthgpniapbeeaaaaGreat.LawFnFingers
