/-
  The statement MatrixSolutions holds: for every input the law returns true, and its arguments read afterwards as before.
  Without any condition: of the arguments nothing is asked but what the row says of every input.
-/
import Derived.Test.YtkjnngaceacmdaaFR
import Derived.Test.YtkjnngaceacmdaaMX1
set_option linter.unusedVariables false
namespace Go.Proofs.Ytkjnngaceacmdaa
open Go.ChangeShapes Go.WideShapes Go.ChangeAt Go.RowKit

theorem matrixSolutions_call (avs : List AV) (h : Goods [.ks, .ks, .ki] avs) : Ct Try.prog 3 (avs.map AV.vp) (.vc (pB true)) := by
  match avs, h with
  | [.vs a0, .vs a1, .vi a2], h =>
    obtain ⟨K, hK⟩ := MatrixSolutions_pure h.1.1 h.2.1.1 h.2.2.1
    exact ct_gantrylaw09_MatrixSolutions hK
set_option maxRecDepth 100000 in
theorem matrixSolutions_lifted (os : Os) (started : os.Started) (H : Type) (enc : TypeId × Value → H) :
    ReturnsInHanded {} Try.checked os 3 .any (Rows.matrixSolutionsSpec.pre6 enc Try.prog Try.f3 Rows.matrixSolutionsRow.domain false) (Rows.matrixSolutionsSpec.post enc Try.prog Try.f3 false true false false) := by
  refine returnsInHanded_of_change (C := Try.checked) own started (by kernel_rfl) Try.func3 (ChangeSpec.witness6 (enc := enc) (C := Try.checked) false ⟨#[], #[.slice none 0 0, .slice none 0 0, .int .i64 0], []⟩ 8 (by kernel_rfl) (by kernel_rfl) (by kernel_rfl) (by kernel_rfl)) ?_
  intro W base args ds gs before hval hW _ _
  refine law_contract (ts := [22, 22, 3]) (ks := [.ks, .ks, .ki]) (tb := 4) Try.params3 ⟨⟨3, Try.underlying22, Try.underlying3, by kernel_rfl⟩, ⟨3, Try.underlying22, Try.underlying3, by kernel_rfl⟩, Try.underlying3, trivial⟩ matrixSolutions_call rfl (by kernel_rfl) Try.underlying4 ?_ hval hW
  intro ds hl
  match ds, hl with
  | [d0, d1, d2], _ => rfl
theorem matrixSolutions_over : Rows.matrixSolutionsRow.holds Try.pinned (OpenSpec.ofChange Rows.matrixSolutionsSpec) :=
  OpenClaim.holds_of_wide 3 Try.f3 rfl rfl rfl rfl rfl rfl rfl ⟨rfl, rfl, rfl, rfl, rfl⟩ rfl rfl rfl rfl rfl (by kernel_rfl) Try.func3 (by kernel_rfl)
    (of_decide_eq_true (by kernel_rfl)) (by unfold Func.isWrapper; first | (rw [if_pos (by decide +kernel)]; kernel_rfl) | (rw [if_neg (by decide +kernel)]; exact ⟨rfl, rfl⟩))
    (fun os started H enc _ => matrixSolutions_lifted os started H enc)
/-- The statement. -/
theorem matrixSolutions_holds : Rows.MatrixSolutionsSaid := matrixSolutions_over
#print axioms matrixSolutions_holds
end Go.Proofs.Ytkjnngaceacmdaa
