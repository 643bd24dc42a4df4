/-
  The statement MatrixRing holds: for every input the law returns true, and its arguments read afterwards as before.
  Without any condition: of the arguments nothing is asked but what the row says of every input.
-/
import Derived.Test.YtkjnngaceacmdaaFR
import Derived.Test.YtkjnngaceacmdaaMX2
set_option linter.unusedVariables false
namespace Go.Proofs.Ytkjnngaceacmdaa
open Go.ChangeShapes Go.WideShapes Go.ChangeAt Go.RowKit

theorem matrixRing_call (avs : List AV) (h : Goods [.ks, .ks, .ks, .ki] avs) : Ct Try.prog 4 (avs.map AV.vp) (.vc (pB true)) := by
  match avs, h with
  | [.vs a0, .vs a1, .vs a2, .vi a3], h =>
    obtain ⟨K, hK⟩ := MatrixRing_pure h.1.1 h.2.1.1 h.2.2.1.1 h.2.2.2.1
    exact ct_gantrylaw09_MatrixRing hK
set_option maxRecDepth 100000 in
theorem matrixRing_lifted (os : Os) (started : os.Started) (H : Type) (enc : TypeId × Value → H) :
    ReturnsInHanded {} Try.checked os 4 .any (Rows.matrixRingSpec.pre6 enc Try.prog Try.f4 Rows.matrixRingRow.domain false) (Rows.matrixRingSpec.post enc Try.prog Try.f4 false true false false) := by
  refine returnsInHanded_of_change (C := Try.checked) own started (by kernel_rfl) Try.func4 (ChangeSpec.witness6 (enc := enc) (C := Try.checked) false ⟨#[], #[.slice none 0 0, .slice none 0 0, .slice none 0 0, .int .i64 0], []⟩ 8 (by kernel_rfl) (by kernel_rfl) (by kernel_rfl) (by kernel_rfl)) ?_
  intro W base args ds gs before hval hW _ _
  refine law_contract (ts := [22, 22, 22, 3]) (ks := [.ks, .ks, .ks, .ki]) (tb := 4) Try.params4 ⟨⟨3, Try.underlying22, Try.underlying3, by kernel_rfl⟩, ⟨3, Try.underlying22, Try.underlying3, by kernel_rfl⟩, ⟨3, Try.underlying22, Try.underlying3, by kernel_rfl⟩, Try.underlying3, trivial⟩ matrixRing_call rfl (by kernel_rfl) Try.underlying4 ?_ hval hW
  intro ds hl
  match ds, hl with
  | [d0, d1, d2, d3], _ => rfl
theorem matrixRing_over : Rows.matrixRingRow.holds Try.pinned (OpenSpec.ofChange Rows.matrixRingSpec) :=
  OpenClaim.holds_of_wide 4 Try.f4 rfl rfl rfl rfl rfl rfl rfl ⟨rfl, rfl, rfl, rfl, rfl⟩ rfl rfl rfl rfl rfl (by kernel_rfl) Try.func4 (by kernel_rfl)
    (of_decide_eq_true (by kernel_rfl)) (by unfold Func.isWrapper; first | (rw [if_pos (by decide +kernel)]; kernel_rfl) | (rw [if_neg (by decide +kernel)]; exact ⟨rfl, rfl⟩))
    (fun os started H enc _ => matrixRing_lifted os started H enc)
/-- The statement. -/
theorem matrixRing_holds : Rows.MatrixRingSaid := matrixRing_over
#print axioms matrixRing_holds
end Go.Proofs.Ytkjnngaceacmdaa
