import Derived.Test.YtkjnngaceacmdaaGreatI2
set_option linter.unusedVariables false
set_option maxRecDepth 100000
namespace Go.Proofs.YtkjnngaceacmdaaGreat

end Go.Proofs.YtkjnngaceacmdaaGreat
