/- More of package matrix: Rank, Det, Inverse, Positive; products of numbers of other sizes. -/
import Derived.Test.YtkjnngaceacmdaaMU
set_option linter.unusedVariables false
namespace Go.Proofs.Ytkjnngaceacmdaa

theorem le_of_mul_le {w b B : Nat} (h : w * (b + 1) ≤ B) (hw : 0 < w) : b + 1 ≤ B := Nat.le_trans (Nat.le_mul_of_pos_left (b + 1) hw) h
theorem rsum_g {f : Nat → Rat} {w b : Nat} (hf : ∀ c, c < w → Bd b (f c)) (hB : w * (b + 1) ≤ 1000000000) (hw : w ≤ 1000) (K : Nat) : ∀ (t i k : Nat), i + t = w → t < k → Bd (1 + i * (b + 1)) (sm f i) → F_rat_sum_l8 K (mp f w) k (sm f i) (i : Int) = some (sm f w)
  | 0, i, k, hi, hk, ha => by
    obtain ⟨k', rfl, _⟩ := fuel hk
    have : i = w := by omega
    subst this
    simp only [F_rat_sum_l8, mp_len, dF (show ¬ (i : Int) < (i : Int) by omega), cF0]
  | t + 1, i, k, hi, hk, ha => by
    obtain ⟨k', rfl, _⟩ := fuel hk
    have hx := hf i (by omega)
    have hb := le_of_mul_le hB (by omega)
    have hib : i * (b + 1) ≤ w * (b + 1) := Nat.mul_le_mul_right _ (by omega)
    have hs : 1 + i * (b + 1) + b + 1 = 1 + (i + 1) * (b + 1) := by rw [Nat.add_mul]; omega
    simp only [F_rat_sum_l8, mp_len, dT (show (i : Int) < (w : Int) by omega), cT0, rdMp (f := f) (show i < w by omega), oB, qadd_ok ha hx (by omega) (by omega), ckS (i := i) (by omega)]
    exact rsum_g hf hB hw K t (i + 1) k' (by omega) (by omega) (by simp only [sm]; exact (ha.add hx).mono (by omega))
theorem pDotg_l24 {f e : Nat → Rat} {w b b' : Nat} (hf : ∀ c, c < w → Bd b (f c)) (he : ∀ c, c < w → Bd b' (e c)) (hB : w * (b + b' + 1) ≤ 1000000000) (hw : w ≤ 1000) (K : Nat) : ∀ (t i k : Nat), i + t = w → t < k → F_rat_Dot_l24 K (mp f w) (mp e w) k (mp (fun c => f c * e c) i) (i : Int) = some (mp (fun c => f c * e c) w)
  | 0, i, k, hi, hk => by
    obtain ⟨k', rfl, _⟩ := fuel hk
    have : i = w := by omega
    subst this
    simp only [F_rat_Dot_l24, mp_len, Int.min_self, dF (show ¬ (i : Int) < (i : Int) by omega), cF0]
  | t + 1, i, k, hi, hk => by
    obtain ⟨k', rfl, _⟩ := fuel hk
    have hb := le_of_mul_le hB (by omega)
    simp only [F_rat_Dot_l24, mp_len, Int.min_self, dT (show (i : Int) < (w : Int) by omega), cT0, rdMp (f := f) (show i < w by omega), rdMp (f := e) (show i < w by omega), oB, qmul_ok (hf i (by omega)) (he i (by omega)) (by omega) (by omega), apM (g := fun c => f c * e c) (i := i) (by omega), ckS (i := i) (by omega)]
    exact pDotg_l24 hf he hB hw K t (i + 1) k' (by omega) (by omega)
theorem pDotg_ok {f e : Nat → Rat} {w b b' : Nat} (hf : ∀ c, c < w → Bd b (f c)) (he : ∀ c, c < w → Bd b' (e c)) (hB : w * (b + b' + 1) ≤ 1000000000) (hw : w ≤ 1000) {K : Nat} (hK : w < K) : F_rat_Dot K (mp f w) (mp e w) = some (sm (fun c => f c * e c) w) := by
  have h1 := pDotg_l24 hf he hB hw K w 0 K (by omega) hK
  have h2 := rsum_g (f := fun c => f c * e c) (b := b + b') (fun c hc => (hf c hc).mul (he c hc)) hB hw K w 0 K (by omega) hK (Bd.zero.mono (by omega))
  simp only [Int.natCast_zero, mp_zero, sm] at h1 h2
  simp only [F_rat_Dot, h1, oB, F_rat_Dot_j25, F_rat_sum, h2, F_rat_sum_j9]
theorem appliedg_l23 {g : Nat → Nat → Rat} {v : Nat → Rat} {h w b b' : Nat} (hg : Bdx h w b g) (hv : ∀ c, c < w → Bd b' (v c)) (hB : w * (b + b' + 1) ≤ 1000000000) (hh : h ≤ 1000) (hw : w ≤ 1000) {K : Nat} (hK : w < K) : ∀ (t i k : Nat), i + t = h → t < k → F_matrix_applied_l23 K (mx g h w) (mp v w) k (mp (mulV g v w) i) (i : Int) = some (mp (mulV g v w) h)
  | 0, i, k, hi, hk => by
    obtain ⟨k', rfl, _⟩ := fuel hk
    have : i = h := by omega
    subst this
    simp only [F_matrix_applied_l23, mx_len, dF (show ¬ (i : Int) < (i : Int) by omega), cF0]
  | t + 1, i, k, hi, hk => by
    obtain ⟨k', rfl, _⟩ := fuel hk
    have hd := pDotg_ok (f := g i) (fun c hc => hg i c (by omega) hc) hv hB hw hK
    have e : sm (fun c => g i c * v c) w = mulV g v w i := rfl
    rw [e] at hd
    simp only [F_matrix_applied_l23, mx_len, dT (show (i : Int) < (h : Int) by omega), cT0, rdMx (g := g) (w := w) (show i < h by omega), oB, hd, apM (g := mulV g v w) (i := i) (by omega), ckS (i := i) (by omega)]
    exact appliedg_l23 hg hv hB hh hw hK t (i + 1) k' (by omega) (by omega)
theorem Mulg_l34 {g q : Nat → Nat → Rat} {h w v b b' : Nat} (hg : Bdx h w b g) (hq : Bdx w v b' q) (hB : w * (b' + b + 1) ≤ 1000000000) (hh : h ≤ 1000) (hw : w ≤ 1000) (hv : v ≤ 1000) {K : Nat} (hK : w + v < K) : ∀ (t i k : Nat), i + t = h → t < k → F_matrix_Mul_l34 K (mx g h w) (mx (tr q) v w) k (mx (mulM g q w) i v) (i : Int) = some (mx (mulM g q w) h v)
  | 0, i, k, hi, hk => by
    obtain ⟨k', rfl, _⟩ := fuel hk
    have : i = h := by omega
    subst this
    simp only [F_matrix_Mul_l34, mx_len, dF (show ¬ (i : Int) < (i : Int) by omega), cF0]
  | t + 1, i, k, hi, hk => by
    obtain ⟨k', rfl, _⟩ := fuel hk
    have h23 := appliedg_l23 (g := tr q) (v := g i) (h := v) (fun k c hk hc => hq c k hc hk) (fun c hc => hg i c (by omega) hc) hB hv hw (K := K) (by omega) v 0 K (by omega) (by omega)
    simp only [Int.natCast_zero, mp_zero] at h23
    have e4 : apL (mx (mulM g q w) i v) [mp (mulV (tr q) (g i) w) v] = some (mx (mulM g q w) (i + 1) v) := apM (g := fun i => mp (mulM g q w i) v) (by omega)
    simp only [F_matrix_Mul_l34, mx_len, dT (show (i : Int) < (h : Int) by omega), cT0, rdMx (g := g) (w := w) (show i < h by omega), oB, F_matrix_applied, h23, F_matrix_applied_j24, e4, ckS (i := i) (by omega)]
    exact Mulg_l34 hg hq hB hh hw hv hK t (i + 1) k' (by omega) (by omega)
theorem Mulg_ok {g q : Nat → Nat → Rat} {h w v b b' : Nat} (hg : Bdx h w b g) (hq : Bdx w v b' q) (hc : Cok h w) (hc' : Cok w v) (hB : w * (b' + b + 1) ≤ 1000000000) (hh : h ≤ 64) (hw : w ≤ 64) (hv : v ≤ 64) {K : Nat} (hK : w + v + h < K) : F_matrix_Mul K (mx g h w) (mx q w v) = some (mx (mulM g q w) h v, 0) := by
  have h34 := Mulg_l34 hg hq hB (show h ≤ 1000 by omega) (show w ≤ 1000 by omega) (show v ≤ 1000 by omega) (K := K) (by omega) h 0 K (by omega) (by omega)
  have z1 : mx (mulM g q w) 0 v = [] := rfl
  rw [z1] at h34
  simp only [Int.natCast_zero] at h34
  simp only [F_matrix_Mul, Valid_ok hc hh hw (K := K) (by omega), Valid_ok hc' hw hv (K := K) (by omega), oB, Bool.not_true, cF0, cols_ok hc, mx_len, nF (rfl : (w : Int) = (w : Int)), turned_ok hc' (show w ≤ 100 by omega) (show v ≤ 100 by omega) (K := K) (by omega), h34, F_matrix_Mul_j35]
theorem mulMg_bd {g q : Nat → Nat → Rat} {h w v b b' : Nat} (hg : Bdx h w b g) (hq : Bdx w v b' q) : Bdx h v (1 + w * (b' + b + 1)) (mulM g q w) := fun i j hi hj =>
  sm_bd (f := tr q j) (e := g i) (fun c hc => hq c j hc hj) (fun c hc => hg i c hi hc) w (Nat.le_refl _)
theorem Rank_ok {g : Nat → Nat → Rat} {h w b : Nat} (hg : Bdx h w b g) (hc : Cok h w) (hb : 2 ≤ b) (hB : 5 ^ w * b ≤ 200000000) (hh : h ≤ 64) (hw : w ≤ 64) {K : Nat} (hK : w + h < K) : F_matrix_Rank K (mx g h w) = some ((rank g h w : Int), 0) := by
  simp only [F_matrix_Rank, Valid_ok hc hh hw (K := K) (by omega), oB, Bool.not_true, cF0, cols_ok hc, reduce_ok hg hb (Nat.le_refl w) hB (show h ≤ 1000 by omega) (show w ≤ 1000 by omega) hK, ints_len, rank]
theorem Cok_self (n : Nat) : Cok n n := fun h => h
theorem square_ok {g : Nat → Nat → Rat} {n : Nat} (hn : n ≤ 64) {K : Nat} (hK : n < K) : F_matrix_square K (mx g n n) = some true := by
  simp only [F_matrix_square, Valid_ok (Cok_self n) hn hn (K := K) hK, oB, cT0, cols_ok (Cok_self n), mx_len, qT (rfl : (n : Int) = (n : Int))]
theorem Det_ok {g : Nat → Nat → Rat} {n b : Nat} (hg : Bdx n n b g) (hb : 2 ≤ b) (hB : 5 ^ n * b ≤ 200000000) (hn : n ≤ 64) {K : Nat} (hK : n + n < K) : F_matrix_Det K (mx g n n) = some (dt n g, 0) := by
  rw [dt_red]
  unfold detR
  simp only [F_matrix_Det, square_ok hn (K := K) (by omega), oB, Bool.not_true, cF0, mx_len, reduce_ok hg hb (Nat.le_refl n) hB (show n ≤ 1000 by omega) (show n ≤ 1000 by omega) hK, ints_len]
  by_cases h : (red g n n).ps.length = n
  · simp only [qT (show ((red g n n).ps.length : Int) = (n : Int) by omega), cT0, if_pos h]
  · simp only [qF (show ¬ ((red g n n).ps.length : Int) = (n : Int) by omega), cF0, if_neg h]
theorem det_bd {g : Nat → Nat → Rat} {n b : Nat} (hg : Bdx n n b g) (hb : 2 ≤ b) : Bd (5 ^ n * b) (dt n g) := by
  rw [dt_red]
  unfold detR
  split
  · exact (red_ok hg hb n (Nat.le_refl _)).bdd
  · exact Bd.zero.mono (by have := pow_pos5 n b hb; omega)
end Go.Proofs.Ytkjnngaceacmdaa
