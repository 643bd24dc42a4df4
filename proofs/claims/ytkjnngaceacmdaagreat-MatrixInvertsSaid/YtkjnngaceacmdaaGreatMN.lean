/- Solutions and kernels, in numbers. -/
import Derived.Test.YtkjnngaceacmdaaGreatMR
import Derived.Test.YtkjnngaceacmdaaGreatMS
set_option linter.unusedVariables false
namespace Go.Proofs.YtkjnngaceacmdaaGreat

/-- A vector and the right side. -/
def ext (x : Nat → Rat) (w c : Nat) : Rat := if c < w then x c else -1
end Go.Proofs.YtkjnngaceacmdaaGreat
