/- Turn, Mul and Apply; the law MatrixProducts, without a program in sight. -/
import Derived.Test.YtkjnngaceacmdaaMS
set_option linter.unusedVariables false
namespace Go.Proofs.Ytkjnngaceacmdaa

end Go.Proofs.Ytkjnngaceacmdaa
