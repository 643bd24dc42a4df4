/- Matrices that are not valid; Solve, the program's and the reference's. -/
import Derived.Test.YtkjnngaceacmdaaGreatLG
set_option linter.unusedVariables false
namespace Go.Proofs.YtkjnngaceacmdaaGreat

/-- Too many rows, too many columns, or a row of another length. -/
def Bad (M : List (List Rat)) : Prop := 64 < M.length ∨ (0 < M.length ∧ (64 < (M.getD 0 []).length ∨ (M.length ≤ 64 ∧ ∃ i, i < M.length ∧ (M.getD i []).length ≠ (M.getD 0 []).length)))
theorem rdL0 {M : List (List Rat)} (h : 0 < M.length) : rdL M 0 = some (M.getD 0 []) := by
  have := rdD (xs := M) (i := 0) [] h
  simpa only [Int.natCast_zero] using this
theorem Bad_l3 {M : List (List Rat)} (h0 : 0 < M.length) (h64 : M.length ≤ 64) {p : Nat} (hp : p < M.length) (hne : (M.getD p []).length ≠ (M.getD 0 []).length) (K : Nat) : ∀ (t i k : Nat), i + t = M.length → i ≤ p → t < k → ∃ y : Nat, F_slices_IndexFunc_Rat_l3 K M (F_matrix_Valid_1 M) k (i : Int) = some (.ret (y : Int))
  | 0, i, k, hi, hip, hk => by omega
  | t + 1, i, k, hi, hip, hk => by
    obtain ⟨k', rfl, _⟩ := fuel hk
    have hl : i < M.length := by omega
    simp only [F_slices_IndexFunc_Rat_l3, dT (show (i : Int) < (M.length : Int) by omega), cT0, rdD (xs := M) (i := i) [] hl, oB, F_matrix_Valid_1, rdL0 h0]
    by_cases he : (M.getD i []).length = (M.getD 0 []).length
    · have hip' : i ≠ p := fun h => hne (h ▸ he)
      obtain ⟨y, hy⟩ := Bad_l3 h0 h64 hp hne K t (i + 1) k' (by omega) (by omega) (by omega)
      refine ⟨y, ?_⟩
      simp only [nF (show ((M.getD i []).length : Int) = ((M.getD 0 []).length : Int) by omega), cF0, ckS (i := i) (by omega), oB]
      exact hy
    · exact ⟨i, by simp only [nT (show ((M.getD i []).length : Int) ≠ ((M.getD 0 []).length : Int) by omega), cT0]⟩
theorem Bad_ok {M : List (List Rat)} (h : Bad M) {K : Nat} (hK : 64 < K) : F_matrix_Valid K M = some false := by
  by_cases h64 : 64 < M.length
  · simp only [F_matrix_Valid, dF (show ¬ (M.length : Int) ≤ 64 by omega), cF0]
  · rcases h with h | ⟨h0, h⟩
    · omega
    · have ec : F_matrix_cols M = some ((M.getD 0 []).length : Int) := by
        simp only [F_matrix_cols, qF (show ¬ (M.length : Int) = 0 by omega), cF0, rdL0 h0, oB]
      by_cases hc : 64 < (M.getD 0 []).length
      · simp only [F_matrix_Valid, dT (show (M.length : Int) ≤ 64 by omega), cT0, ec, oB, dF (show ¬ ((M.getD 0 []).length : Int) ≤ 64 by omega), cF0]
      · rcases h with h | ⟨hl, p, p1, p2⟩
        · omega
        · obtain ⟨y, hy⟩ := Bad_l3 h0 hl p1 p2 K M.length 0 K (by omega) (by omega) (by omega)
          simp only [Int.natCast_zero] at hy
          simp only [F_matrix_Valid, dT (show (M.length : Int) ≤ 64 by omega), cT0, ec, oB, dT (show ((M.getD 0 []).length : Int) ≤ 64 by omega), F_slices_ContainsFunc_Rat, F_slices_IndexFunc_Rat, hy, dT (show (0 : Int) ≤ (y : Int) by omega), Bool.not_true]
theorem ragged_ok {g : Nat → Nat → Rat} {h w : Nat} (hh : h ≤ 5) (hw : w ≤ 5) (hc : Cok h w) {how : Int} (hi : I64 how) : ∃ M, F_gantrylaw09_ragged (mx g h w) how = some M ∧ Bad M ∧ M.length ≤ 65 := by
  obtain ⟨v, v1, v2, v3⟩ := Around_ok hi (m := 3) (by omega)
  have e0 : apL ([] : List (List Rat)) (mx g h w) = some (mx g h w) := by rw [apL_ok (by rw [mx_len, List.length_nil]; omega), List.nil_append]
  by_cases h0 : v = 0
  · have e1 : chk ((w : Int) + 1) = some ((w + 1 : Nat) : Int) := ckN (m := 0) (by omega) (by omega)
    have e2 : apL (mx g h w) [mp (fun _ => (0 : Rat)) w, mp (fun _ => 0) (w + 1)] = some (mx g h w ++ [mp (fun _ => 0) w, mp (fun _ => 0) (w + 1)]) := apL_ok (by rw [mx_len]; simp only [List.length_cons, List.length_nil]; omega)
    have hlen : (mx g h w ++ [mp (fun _ => (0 : Rat)) w, mp (fun _ => 0) (w + 1)]).length = h + 2 := by rw [List.length_append, mx_len]; rfl
    refine ⟨mx g h w ++ [mp (fun _ => (0 : Rat)) w, mp (fun _ => 0) (w + 1)], by simp only [F_gantrylaw09_ragged, e0, v1, oB, qT h0, cT0, rcols_ok hc, mkMp (n := w) (z := (0 : Rat)) (by omega), e1, mkMp (n := w + 1) (z := (0 : Rat)) (by omega), e2], .inr ⟨by omega, .inr ⟨by omega, h + 1, by omega, ?_⟩⟩, by omega⟩
    have a1 : (mx g h w ++ [mp (fun _ => (0 : Rat)) w, mp (fun _ => 0) (w + 1)]).getD (h + 1) [] = mp (fun _ => 0) (w + 1) := by
      rw [List.getD_eq_getElem?_getD, List.getElem?_append_right (by rw [mx_len]; omega), mx_len, show h + 1 - h = 1 by omega]; rfl
    have a0 : ((mx g h w ++ [mp (fun _ => (0 : Rat)) w, mp (fun _ => 0) (w + 1)]).getD 0 []).length = w := by
      by_cases hz : h = 0
      · subst hz
        show (mp (fun _ => (0 : Rat)) w).length = w
        rw [mp_len]
      · rw [List.getD_eq_getElem?_getD, List.getElem?_append_left (by rw [mx_len]; omega)]
        unfold mx
        rw [mp_get (show 0 < h by omega)]
        show (mp (g 0) w).length = w
        rw [mp_len]
    rw [a1, a0, mp_len]; omega
  · by_cases h1 : v = 1
    · have e1 : mkL 65 ([] : List Rat) = some (List.replicate 65 []) := mkL_ok (n := 65) (by omega)
      exact ⟨List.replicate 65 [], by simp only [F_gantrylaw09_ragged, e0, v1, oB, qF h0, cF0, qT h1, cT0, e1], .inl (by simp), by simp⟩
    · have e1 : mkL 65 (0 : Rat) = some (List.replicate 65 0) := mkL_ok (n := 65) (by omega)
      exact ⟨[List.replicate 65 0], by simp only [F_gantrylaw09_ragged, e0, v1, oB, qF h0, cF0, qF h1, e1], .inr ⟨by simp, .inl (by simp)⟩, by simp⟩
end Go.Proofs.YtkjnngaceacmdaaGreat
