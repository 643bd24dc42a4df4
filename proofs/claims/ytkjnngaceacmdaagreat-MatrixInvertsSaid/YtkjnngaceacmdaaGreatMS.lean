/- The law MatrixSolves, without a program in sight. -/
import Derived.Test.YtkjnngaceacmdaaGreatLV
set_option linter.unusedVariables false
namespace Go.Proofs.YtkjnngaceacmdaaGreat

end Go.Proofs.YtkjnngaceacmdaaGreat
