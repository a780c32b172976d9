/- The plain statement of the law FnExactConstants: at all arguments within the row's bounds the printed function answers true. No further condition. -/
import Derived.Test.YtgkohhjdnckdaaaPFnExactConstantsx1
import Derived.Test.YtgkohhjdnckdaaaBase
set_option linter.unusedVariables false
set_option linter.unusedSimpArgs false
namespace Go.Proofs.Ytgkohhjdnckdaaa.Pure
open Go.RowKit Go.Proofs.Ytgkohhjdnckdaaa.PFnExactConstants Go.Proofs.YtgkohhjdnckdaaaW.PrintWords Go.Proofs.YtgkohhjdnckdaaaW.PrintLast


theorem FnExactConstants : laws_FnExactConstants.Pure := rfl

end Go.Proofs.Ytgkohhjdnckdaaa.Pure
