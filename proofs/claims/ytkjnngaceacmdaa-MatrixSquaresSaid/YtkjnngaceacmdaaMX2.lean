/- The law MatrixRing, without a program in sight. -/
import Derived.Test.YtkjnngaceacmdaaMD
set_option linter.unusedVariables false
namespace Go.Proofs.Ytkjnngaceacmdaa

/-- A size from 1 on. -/
theorem size_ok {n m : Int} (hn : I64 n) (hm : 0 < m ∧ m ≤ 1000) : ∃ s : Nat, ∃ v, F_gantryref01_Around n m = some v ∧ chk (1 + v) = some (s : Int) ∧ 1 ≤ s ∧ (s : Int) ≤ m := by
  obtain ⟨v, v1, v2, v3⟩ := Around_ok hn (m := m) (by omega)
  exact ⟨(1 + v).toNat, v, v1, ckN (m := 0) (by omega) (by omega), by omega, by omega⟩
end Go.Proofs.Ytkjnngaceacmdaa
