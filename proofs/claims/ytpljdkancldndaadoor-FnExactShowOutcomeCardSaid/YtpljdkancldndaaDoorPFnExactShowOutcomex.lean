/- Functions of the program as plain Lean functions, each with the proof that the machine's call does what it says. Written by this session's own program over the kit's print. -/
import Derived.Test.YtpljdkancldndaaDoorPFnExactShowOutcomex0
import Derived.Test.YtpljdkancldndaaDoorPFnExactShowOutcomex1
import Derived.Test.YtpljdkancldndaaDoorPFnExactShowOutcomex2
import Derived.Test.YtpljdkancldndaaDoorPFnExactShowOutcomex3
namespace Go.Proofs.YtpljdkancldndaaDoor.PFnExactShowOutcome
open Go.RowKit Go.Proofs.YtpljdkancldndaaDoorW.PrintWords Go.Proofs.YtpljdkancldndaaDoorW.PrintLast Go.Proofs.YtpljdkancldndaaDoorW.PrintMore
attribute [local go_sem] max2_int min2_int max_two min_two max_three min_three max_four min_four   -- for this text's walks alone
set_option linter.unusedVariables false
set_option linter.unusedSimpArgs false

end Go.Proofs.YtpljdkancldndaaDoor.PFnExactShowOutcome
