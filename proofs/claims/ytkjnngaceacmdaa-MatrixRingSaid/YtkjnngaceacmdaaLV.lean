/- Matrices that are not valid; Solve, the program's and the reference's. -/
import Derived.Test.YtkjnngaceacmdaaLG
set_option linter.unusedVariables false
namespace Go.Proofs.Ytkjnngaceacmdaa

end Go.Proofs.Ytkjnngaceacmdaa
