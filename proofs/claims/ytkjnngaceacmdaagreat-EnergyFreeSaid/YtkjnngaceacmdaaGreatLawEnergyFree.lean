/-
  The statement EnergyFree holds: for every input the law returns true, and its arguments read afterwards as before.
  Without any condition: of the arguments nothing is asked but what the row says of every input.
-/
import Derived.Test.YtkjnngaceacmdaaGreatFR
import Derived.Test.YtkjnngaceacmdaaGreatEF
set_option linter.unusedVariables false
namespace Go.Proofs.YtkjnngaceacmdaaGreat
open Go.ChangeShapes Go.WideShapes Go.ChangeAt Go.RowKit

theorem energyFree_call (avs : List AV) (h : Goods [.ks, .ks] avs) : Ct Tryz.prog 4 (avs.map AV.vp) (.vc (pB true)) := by
  match avs, h with
  | [.vs a0, .vs a1], h =>
    obtain ⟨K, hK⟩ := EnergyFree_pure h.1.1 h.2.1.1
    exact ct_gantrylaw21_EnergyFree hK
set_option maxRecDepth 100000 in
theorem energyFree_lifted (os : Os) (started : os.Started) (H : Type) (enc : TypeId × Value → H) :
    ReturnsInHanded {} Tryz.checked os 4 .any (Rows.energyFreeSpec.pre6 enc Tryz.prog Tryz.f4 Rows.energyFreeRow.domain false) (Rows.energyFreeSpec.post enc Tryz.prog Tryz.f4 false true false false) := by
  refine returnsInHanded_of_change (C := Tryz.checked) own started (by kernel_rfl) Tryz.func4 (ChangeSpec.witness6 (enc := enc) (C := Tryz.checked) false ⟨#[], #[.slice none 0 0, .slice none 0 0], []⟩ 8 (by kernel_rfl) (by kernel_rfl) (by kernel_rfl) (by kernel_rfl)) ?_
  intro W base args ds gs before hval hW _ _
  refine law_contract (ts := [22, 22]) (ks := [.ks, .ks]) (tb := 4) Tryz.params4 ⟨⟨3, Tryz.underlying22, Tryz.underlying3, by kernel_rfl⟩, ⟨3, Tryz.underlying22, Tryz.underlying3, by kernel_rfl⟩, trivial⟩ energyFree_call rfl (by kernel_rfl) Tryz.underlying4 ?_ hval hW
  intro ds hl
  match ds, hl with
  | [d0, d1], _ => rfl
theorem energyFree_over : Rows.energyFreeRow.holds Tryz.pinned (OpenSpec.ofChange Rows.energyFreeSpec) :=
  OpenClaim.holds_of_wide 4 Tryz.f4 rfl rfl rfl rfl rfl rfl rfl ⟨rfl, rfl, rfl, rfl, rfl⟩ rfl rfl rfl rfl rfl (by kernel_rfl) Tryz.func4 (by kernel_rfl)
    (of_decide_eq_true (by kernel_rfl)) (by unfold Func.isWrapper; first | (rw [if_pos (by decide +kernel)]; kernel_rfl) | (rw [if_neg (by decide +kernel)]; exact ⟨rfl, rfl⟩))
    (fun os started H enc _ => energyFree_lifted os started H enc)
/-- The statement. -/
theorem energyFree_holds : Rows.EnergyFreeSaid := energyFree_over
#print axioms energyFree_holds
end Go.Proofs.YtkjnngaceacmdaaGreat
