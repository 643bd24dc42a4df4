/- Turn, Mul and Apply; the law MatrixProducts, without a program in sight. -/
import Derived.Test.YtkjnngaceacmdaaGreatMS
set_option linter.unusedVariables false
namespace Go.Proofs.YtkjnngaceacmdaaGreat

end Go.Proofs.YtkjnngaceacmdaaGreat
