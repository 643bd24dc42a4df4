/-
  The statement MatrixProducts holds: for every input the law returns true, and its arguments read afterwards as before.
  Without any condition: of the arguments nothing is asked but what the row says of every input.
-/
import Derived.Test.YtkjnngaceacmdaaGreatFR
import Derived.Test.YtkjnngaceacmdaaGreatMP
set_option linter.unusedVariables false
namespace Go.Proofs.YtkjnngaceacmdaaGreat
open Go.ChangeShapes Go.WideShapes Go.ChangeAt Go.RowKit

theorem matrixProducts_call (avs : List AV) (h : Goods [.ks, .ks, .ki, .ki, .ki] avs) : Ct Tryz.prog 9 (avs.map AV.vp) (.vc (pB true)) := by
  match avs, h with
  | [.vs a0, .vs a1, .vi a2, .vi a3, .vi a4], h =>
    obtain ⟨K, hK⟩ := MatrixProducts_pure h.1.1 h.2.1.1 h.2.2.1 h.2.2.2.1 h.2.2.2.2.1
    exact ct_gantrylaw09_MatrixProducts hK
set_option maxRecDepth 100000 in
theorem matrixProducts_lifted (os : Os) (started : os.Started) (H : Type) (enc : TypeId × Value → H) :
    ReturnsInHanded {} Tryz.checked os 9 .any (Rows.matrixProductsSpec.pre6 enc Tryz.prog Tryz.f9 Rows.matrixProductsRow.domain false) (Rows.matrixProductsSpec.post enc Tryz.prog Tryz.f9 false true false false) := by
  refine returnsInHanded_of_change (C := Tryz.checked) own started (by kernel_rfl) Tryz.func9 (ChangeSpec.witness6 (enc := enc) (C := Tryz.checked) false ⟨#[], #[.slice none 0 0, .slice none 0 0, .int .i64 0, .int .i64 0, .int .i64 0], []⟩ 8 (by kernel_rfl) (by kernel_rfl) (by kernel_rfl) (by kernel_rfl)) ?_
  intro W base args ds gs before hval hW _ _
  refine law_contract (ts := [22, 22, 3, 3, 3]) (ks := [.ks, .ks, .ki, .ki, .ki]) (tb := 4) Tryz.params9 ⟨⟨3, Tryz.underlying22, Tryz.underlying3, by kernel_rfl⟩, ⟨3, Tryz.underlying22, Tryz.underlying3, by kernel_rfl⟩, Tryz.underlying3, Tryz.underlying3, Tryz.underlying3, trivial⟩ matrixProducts_call rfl (by kernel_rfl) Tryz.underlying4 ?_ hval hW
  intro ds hl
  match ds, hl with
  | [d0, d1, d2, d3, d4], _ => rfl
theorem matrixProducts_over : Rows.matrixProductsRow.holds Tryz.pinned (OpenSpec.ofChange Rows.matrixProductsSpec) :=
  OpenClaim.holds_of_wide 9 Tryz.f9 rfl rfl rfl rfl rfl rfl rfl ⟨rfl, rfl, rfl, rfl, rfl⟩ rfl rfl rfl rfl rfl (by kernel_rfl) Tryz.func9 (by kernel_rfl)
    (of_decide_eq_true (by kernel_rfl)) (by unfold Func.isWrapper; first | (rw [if_pos (by decide +kernel)]; kernel_rfl) | (rw [if_neg (by decide +kernel)]; exact ⟨rfl, rfl⟩))
    (fun os started H enc _ => matrixProducts_lifted os started H enc)
/-- The statement. -/
theorem matrixProducts_holds : Rows.MatrixProductsSaid := matrixProducts_over
#print axioms matrixProducts_holds
end Go.Proofs.YtkjnngaceacmdaaGreat
