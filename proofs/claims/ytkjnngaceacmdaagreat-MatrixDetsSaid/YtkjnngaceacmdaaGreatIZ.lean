import Derived.Test.YtkjnngaceacmdaaGreatI2
set_option linter.unusedVariables false
namespace Go.Proofs.YtkjnngaceacmdaaGreat

end Go.Proofs.YtkjnngaceacmdaaGreat
