/- Functions of the program as plain Lean functions, each with the proof that the machine's call does what it says. Written by this session's own program over the kit's print. -/
import Derived.Test.YtpljdkancldndaaDoorPFnExactShowVerdictx0
import Derived.Test.YtpljdkancldndaaDoorPFnExactShowVerdictx1
import Derived.Test.YtpljdkancldndaaDoorPFnExactShowVerdictx2
import Derived.Test.YtpljdkancldndaaDoorPFnExactShowVerdictx3
import Derived.Test.YtpljdkancldndaaDoorPFnExactShowVerdictx4
namespace Go.Proofs.YtpljdkancldndaaDoor.PFnExactShowVerdict
open Go.RowKit Go.Proofs.YtpljdkancldndaaDoorW.PrintWords Go.Proofs.YtpljdkancldndaaDoorW.PrintLast Go.Proofs.YtpljdkancldndaaDoorW.PrintMore
attribute [local go_sem] max2_int min2_int max_two min_two max_three min_three max_four min_four   -- for this text's walks alone
set_option linter.unusedVariables false
set_option linter.unusedSimpArgs false

end Go.Proofs.YtpljdkancldndaaDoor.PFnExactShowVerdict
