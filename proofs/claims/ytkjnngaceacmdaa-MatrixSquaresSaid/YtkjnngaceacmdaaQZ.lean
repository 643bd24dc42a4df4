import Derived.Test.YtkjnngaceacmdaaQ2
set_option linter.unusedVariables false
namespace Go.Proofs.Ytkjnngaceacmdaa

end Go.Proofs.Ytkjnngaceacmdaa
