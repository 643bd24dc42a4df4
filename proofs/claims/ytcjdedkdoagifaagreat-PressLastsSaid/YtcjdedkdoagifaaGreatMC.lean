/- Kernel, the program's and the reference's; Valid and Same. -/
import Derived.Test.YtcjdedkdoagifaaGreatMB
set_option linter.unusedVariables false
namespace Go.Proofs.YtcjdedkdoagifaaGreat
end Go.Proofs.YtcjdedkdoagifaaGreat
