/-
  The statement MatrixInverts holds: for every input the law returns true, and its arguments read afterwards as before.
  Without any condition: of the arguments nothing is asked but what the row says of every input.
-/
import Derived.Test.YtkjnngaceacmdaaGreatFR
import Derived.Test.YtkjnngaceacmdaaGreatMX5
set_option linter.unusedVariables false
namespace Go.Proofs.YtkjnngaceacmdaaGreat
open Go.ChangeShapes Go.WideShapes Go.ChangeAt Go.RowKit

theorem matrixInverts_call (avs : List AV) (h : Goods [.ks, .ki, .ki] avs) : Ct Tryz.prog 8 (avs.map AV.vp) (.vc (pB true)) := by
  match avs, h with
  | [.vs a0, .vi a1, .vi a2], h =>
    obtain ⟨K, hK⟩ := MatrixInverts_pure h.1.1 h.2.1 h.2.2.1
    exact ct_gantrylaw09_MatrixInverts hK
set_option maxRecDepth 100000 in
theorem matrixInverts_lifted (os : Os) (started : os.Started) (H : Type) (enc : TypeId × Value → H) :
    ReturnsInHanded {} Tryz.checked os 8 .any (Rows.matrixInvertsSpec.pre6 enc Tryz.prog Tryz.f8 Rows.matrixInvertsRow.domain false) (Rows.matrixInvertsSpec.post enc Tryz.prog Tryz.f8 false true false false) := by
  refine returnsInHanded_of_change (C := Tryz.checked) own started (by kernel_rfl) Tryz.func8 (ChangeSpec.witness6 (enc := enc) (C := Tryz.checked) false ⟨#[], #[.slice none 0 0, .int .i64 0, .int .i64 0], []⟩ 8 (by kernel_rfl) (by kernel_rfl) (by kernel_rfl) (by kernel_rfl)) ?_
  intro W base args ds gs before hval hW _ _
  refine law_contract (ts := [22, 3, 3]) (ks := [.ks, .ki, .ki]) (tb := 4) Tryz.params8 ⟨⟨3, Tryz.underlying22, Tryz.underlying3, by kernel_rfl⟩, Tryz.underlying3, Tryz.underlying3, trivial⟩ matrixInverts_call rfl (by kernel_rfl) Tryz.underlying4 ?_ hval hW
  intro ds hl
  match ds, hl with
  | [d0, d1, d2], _ => rfl
theorem matrixInverts_over : Rows.matrixInvertsRow.holds Tryz.pinned (OpenSpec.ofChange Rows.matrixInvertsSpec) :=
  OpenClaim.holds_of_wide 8 Tryz.f8 rfl rfl rfl rfl rfl rfl rfl ⟨rfl, rfl, rfl, rfl, rfl⟩ rfl rfl rfl rfl rfl (by kernel_rfl) Tryz.func8 (by kernel_rfl)
    (of_decide_eq_true (by kernel_rfl)) (by unfold Func.isWrapper; first | (rw [if_pos (by decide +kernel)]; kernel_rfl) | (rw [if_neg (by decide +kernel)]; exact ⟨rfl, rfl⟩))
    (fun os started H enc _ => matrixInverts_lifted os started H enc)
/-- The statement. -/
theorem matrixInverts_holds : Rows.MatrixInvertsSaid := matrixInverts_over
#print axioms matrixInverts_holds
end Go.Proofs.YtkjnngaceacmdaaGreat
