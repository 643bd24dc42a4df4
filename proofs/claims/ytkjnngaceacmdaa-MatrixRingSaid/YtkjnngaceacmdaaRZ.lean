import Derived.Test.YtkjnngaceacmdaaR1
set_option linter.unusedVariables false
namespace Go.Proofs.Ytkjnngaceacmdaa

end Go.Proofs.Ytkjnngaceacmdaa
