/- More of package matrix: Rank, Det, Inverse, Positive; products of numbers of other sizes. -/
import Derived.Test.YtkjnngaceacmdaaGreatMU
set_option linter.unusedVariables false
namespace Go.Proofs.YtkjnngaceacmdaaGreat

theorem Rank_ok {g : Nat → Nat → Rat} {h w b : Nat} (hg : Bdx h w b g) (hc : Cok h w) (hb : 2 ≤ b) (hB : 5 ^ w * b ≤ 200000000) (hh : h ≤ 64) (hw : w ≤ 64) {K : Nat} (hK : w + h < K) : F_matrix_Rank K (mx g h w) = some ((rank g h w : Int), 0) := by
  simp only [F_matrix_Rank, Valid_ok hc hh hw (K := K) (by omega), oB, Bool.not_true, cF0, cols_ok hc, reduce_ok hg hb (Nat.le_refl w) hB (show h ≤ 1000 by omega) (show w ≤ 1000 by omega) hK, ints_len, rank]
theorem Cok_self (n : Nat) : Cok n n := fun h => h
theorem square_ok {g : Nat → Nat → Rat} {n : Nat} (hn : n ≤ 64) {K : Nat} (hK : n < K) : F_matrix_square K (mx g n n) = some true := by
  simp only [F_matrix_square, Valid_ok (Cok_self n) hn hn (K := K) hK, oB, cT0, cols_ok (Cok_self n), mx_len, qT (rfl : (n : Int) = (n : Int))]
theorem square_no {g : Nat → Nat → Rat} {h w : Nat} (hc : Cok h w) (hh : h ≤ 64) (hw : w ≤ 64) (hne : h ≠ w) {K : Nat} (hK : h < K) : F_matrix_square K (mx g h w) = some false := by
  simp only [F_matrix_square, Valid_ok hc hh hw (K := K) hK, oB, cT0, cols_ok hc, mx_len, qF (show ¬ (h : Int) = (w : Int) by omega)]
theorem square_bad {M : List (List Rat)} (hM : Bad M) {K : Nat} (hK : 64 < K) : F_matrix_square K M = some false := by
  simp only [F_matrix_square, Bad_ok hM hK, oB, cF0]
theorem Det_ok {g : Nat → Nat → Rat} {n b : Nat} (hg : Bdx n n b g) (hb : 2 ≤ b) (hB : 5 ^ n * b ≤ 200000000) (hn : n ≤ 64) {K : Nat} (hK : n + n < K) : F_matrix_Det K (mx g n n) = some (dt n g, 0) := by
  rw [dt_red]
  unfold detR
  simp only [F_matrix_Det, square_ok hn (K := K) (by omega), oB, Bool.not_true, cF0, mx_len, reduce_ok hg hb (Nat.le_refl n) hB (show n ≤ 1000 by omega) (show n ≤ 1000 by omega) hK, ints_len]
  by_cases h : (red g n n).ps.length = n
  · simp only [qT (show ((red g n n).ps.length : Int) = (n : Int) by omega), cT0, if_pos h]
  · simp only [qF (show ¬ ((red g n n).ps.length : Int) = (n : Int) by omega), cF0, if_neg h]
theorem mp_app {α : Type} {f e : Nat → α} {m : Nat} : ∀ n, mp f m ++ mp e n = mp (fun c => if c < m then f c else e (c - m)) (m + n)
  | 0 => by
    rw [mp_zero, List.append_nil, Nat.add_zero]
    exact mp_congr fun c hc => by rw [if_pos hc]
  | n + 1 => by
    rw [mp_succ, ← List.append_assoc, mp_app n, ← Nat.add_assoc, mp_succ, if_neg (by omega), show m + n - m = n by omega]
end Go.Proofs.YtkjnngaceacmdaaGreat
