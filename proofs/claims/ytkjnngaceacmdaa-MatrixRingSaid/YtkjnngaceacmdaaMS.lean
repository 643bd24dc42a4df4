/- The law MatrixSolves, without a program in sight. -/
import Derived.Test.YtkjnngaceacmdaaLV
set_option linter.unusedVariables false
namespace Go.Proofs.Ytkjnngaceacmdaa

/-- The size of a sum of products. -/
theorem sm_bd {f e : Nat → Rat} {w b b' : Nat} (hf : ∀ c, c < w → Bd b (f c)) (he : ∀ c, c < w → Bd b' (e c)) : ∀ i, i ≤ w → Bd (1 + i * (b + b' + 1)) (sm (fun c => f c * e c) i)
  | 0, _ => Bd.zero.mono (by omega)
  | i + 1, hi => by
    simp only [sm]
    have hs : 1 + i * (b + b' + 1) + (b + b') + 1 = 1 + (i + 1) * (b + b' + 1) := by rw [Nat.add_mul]; omega
    exact ((sm_bd hf he i (by omega)).add ((hf i (by omega)).mul (he i (by omega)))).mono (by omega)
/-- A matrix times a vector. -/
def mulV (g : Nat → Nat → Rat) (v : Nat → Rat) (w i : Nat) : Rat := sm (fun c => g i c * v c) w
end Go.Proofs.Ytkjnngaceacmdaa
