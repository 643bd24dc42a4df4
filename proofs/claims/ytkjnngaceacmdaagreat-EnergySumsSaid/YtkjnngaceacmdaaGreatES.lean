/- The law EnergySums, without a program in sight. -/
import Derived.Test.YtkjnngaceacmdaaGreatL4
set_option linter.unusedVariables false
namespace Go.Proofs.YtkjnngaceacmdaaGreat

theorem EnergySums_pure {a0 a1 : List Int} (h0 : I64s a0) (h1 : I64s a1) : ∃ K, F_gantrylaw21_EnergySums K a0 a1 = some true := by
  obtain ⟨m, m1, m2, m3⟩ := Model_ok h0
  obtain ⟨x1, a1l, a1b, a1e⟩ := numbers_ok h1 0 (by omega) m.dofs.length (by omega)
  obtain ⟨x2, a2l, a2b, a2e⟩ := numbers_ok h1 12 (by omega) m.dofs.length (by omega)
  obtain ⟨x3, a3l, a3b, a3e⟩ := numbers_ok h1 24 (by omega) m.dofs.length (by omega)
  obtain ⟨x4, a4l, a4b, a4e⟩ := numbers_ok h1 36 (by omega) m.dofs.length (by omega)
  obtain ⟨x5, a5l, a5b, a5e⟩ := numbers_ok h1 48 (by omega) m.dofs.length (by omega)
  have hp := m1.np
  have hd : Dofs m.dofs := m1.dofs
  have e1 : mkL (m.parts.length : Int) false = some (List.replicate m.parts.length false) := mkL_ok (by omega)
  have sa : StOk m.dofs.length 8 (⟨0, x1, x2, List.replicate m.parts.length false⟩ : api_State) := ⟨a1b, a2b, a1l, a2l⟩
  have sb : StOk m.dofs.length 8 (⟨0, x3, x4, List.replicate m.parts.length false⟩ : api_State) := ⟨a3b, a4b, a3l, a4l⟩
  refine (?_ : Ev (fun K => F_gantrylaw21_EnergySums K a0 a1) true).get
  unfold F_gantrylaw21_EnergySums
  refine Ev.bind m3 (Ev.bind a1e (Ev.bind a2e ?_))
  simp only [e1, oB]
  refine Ev.bind a3e (Ev.bind a4e (Ev.bind a5e ?_))
  obtain ⟨k1, k2⟩ := Kinetic_ok (d := m.dofs) hd a2b a2l (by omega) (by omega)
  refine Ev.bind k2 (Ev.bind (rKin_ok hd a2b a2l (by omega) (by omega)).2 ?_)
  simp only [qsame_ok k1 k1 (by omega) (by omega), decide_true, oB, cT0]
  obtain ⟨s1, s2⟩ := Stored_ok (d := m.dofs) hd a1b a1l (by omega) (by omega)
  refine Ev.bind s2 (Ev.bind (rSto_ok hd a1b a1l (by omega) (by omega)).2 ?_)
  simp only [qsame_ok s1 s1 (by omega) (by omega), decide_true, oB, cT0]
  obtain ⟨t1, t2⟩ := Total_ok hd sa (by omega) (by omega)
  refine Ev.bind t2 (Ev.bind (rTotal_ok hd sa (by omega) (by omega)) ?_)
  simp only [qsame_ok t1 t1 (by omega) (by omega), decide_true, oB, cT0]
  obtain ⟨w1, w2⟩ := Work_ok a5b a5l sa sb (by omega) (by omega)
  have w3 := (rWor_ok (l := x5) (a := ⟨0, x1, x2, List.replicate m.parts.length false⟩) (b := ⟨0, x3, x4, List.replicate m.parts.length false⟩) a5b a1b a3b (by rw [a5l]; exact a1l) (by rw [a5l]; exact a3l) (by omega) (by omega) (by omega)).2
  rw [a5l] at w3
  refine Ev.bind w2 (Ev.bind w3 ?_)
  simp only [qsame_ok w1 w1 (by omega) (by omega), decide_true, oB, cT0]
  obtain ⟨l1, l2⟩ := Lost_ok hd a5b a5l sa sb (by omega) (by omega)
  refine Ev.bind l2 (Ev.bind (rLost_ok hd a5b a5l sa sb (by omega) (by omega)) ?_)
  simp only [qsame_ok l1 l1 (by omega) (by omega), decide_true, oB, cT0]
  exact Ev.bind lives21_ok (Ev.pure _)
end Go.Proofs.YtkjnngaceacmdaaGreat
