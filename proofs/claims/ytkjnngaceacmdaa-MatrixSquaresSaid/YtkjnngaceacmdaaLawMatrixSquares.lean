/-
  The statement MatrixSquares holds: for every input the law returns true, and its arguments read afterwards as before.
  Without any condition: of the arguments nothing is asked but what the row says of every input.
-/
import Derived.Test.YtkjnngaceacmdaaFR
import Derived.Test.YtkjnngaceacmdaaMX3
set_option linter.unusedVariables false
namespace Go.Proofs.Ytkjnngaceacmdaa
open Go.ChangeShapes Go.WideShapes Go.ChangeAt Go.RowKit

theorem matrixSquares_call (avs : List AV) (h : Goods [.ks, .ks, .ki] avs) : Ct Try.prog 5 (avs.map AV.vp) (.vc (pB true)) := by
  match avs, h with
  | [.vs a0, .vs a1, .vi a2], h =>
    obtain ⟨K, hK⟩ := MatrixSquares_pure h.1.1 h.2.1.1 h.2.2.1
    exact ct_gantrylaw09_MatrixSquares hK
set_option maxRecDepth 100000 in
theorem matrixSquares_lifted (os : Os) (started : os.Started) (H : Type) (enc : TypeId × Value → H) :
    ReturnsInHanded {} Try.checked os 5 .any (Rows.matrixSquaresSpec.pre6 enc Try.prog Try.f5 Rows.matrixSquaresRow.domain false) (Rows.matrixSquaresSpec.post enc Try.prog Try.f5 false true false false) := by
  refine returnsInHanded_of_change (C := Try.checked) own started (by kernel_rfl) Try.func5 (ChangeSpec.witness6 (enc := enc) (C := Try.checked) false ⟨#[], #[.slice none 0 0, .slice none 0 0, .int .i64 0], []⟩ 8 (by kernel_rfl) (by kernel_rfl) (by kernel_rfl) (by kernel_rfl)) ?_
  intro W base args ds gs before hval hW _ _
  refine law_contract (ts := [22, 22, 3]) (ks := [.ks, .ks, .ki]) (tb := 4) Try.params5 ⟨⟨3, Try.underlying22, Try.underlying3, by kernel_rfl⟩, ⟨3, Try.underlying22, Try.underlying3, by kernel_rfl⟩, Try.underlying3, trivial⟩ matrixSquares_call rfl (by kernel_rfl) Try.underlying4 ?_ hval hW
  intro ds hl
  match ds, hl with
  | [d0, d1, d2], _ => rfl
theorem matrixSquares_over : Rows.matrixSquaresRow.holds Try.pinned (OpenSpec.ofChange Rows.matrixSquaresSpec) :=
  OpenClaim.holds_of_wide 5 Try.f5 rfl rfl rfl rfl rfl rfl rfl ⟨rfl, rfl, rfl, rfl, rfl⟩ rfl rfl rfl rfl rfl (by kernel_rfl) Try.func5 (by kernel_rfl)
    (of_decide_eq_true (by kernel_rfl)) (by unfold Func.isWrapper; first | (rw [if_pos (by decide +kernel)]; kernel_rfl) | (rw [if_neg (by decide +kernel)]; exact ⟨rfl, rfl⟩))
    (fun os started H enc _ => matrixSquares_lifted os started H enc)
/-- The statement. -/
theorem matrixSquares_holds : Rows.MatrixSquaresSaid := matrixSquares_over
#print axioms matrixSquares_holds
end Go.Proofs.Ytkjnngaceacmdaa
