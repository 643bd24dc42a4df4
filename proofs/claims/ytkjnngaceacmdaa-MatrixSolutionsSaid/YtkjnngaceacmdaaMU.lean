/- Determinants of products, ranks of turned matrices, elimination without a search for pivots. -/
import Derived.Test.YtkjnngaceacmdaaMT
import Derived.Test.YtkjnngaceacmdaaMN
import Derived.Test.YtkjnngaceacmdaaMP
set_option linter.unusedVariables false
namespace Go.Proofs.Ytkjnngaceacmdaa

def rank (g : Nat → Nat → Rat) (h w : Nat) : Nat := (red g h w).ps.length
end Go.Proofs.Ytkjnngaceacmdaa
