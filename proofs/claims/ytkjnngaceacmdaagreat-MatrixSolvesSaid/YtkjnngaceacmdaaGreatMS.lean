/- The law MatrixSolves, without a program in sight. -/
import Derived.Test.YtkjnngaceacmdaaGreatLV
set_option linter.unusedVariables false
namespace Go.Proofs.YtkjnngaceacmdaaGreat

theorem Dot_l8 {f e : Nat → Rat} {w b : Nat} (hf : ∀ c, c < w → Bd b (f c)) (he : ∀ c, c < w → Bd b (e c)) (hb : b ≤ 1000000) (hw : w ≤ 100) (K : Nat) : ∀ (t i k : Nat), i + t = w → t < k → Bd (1 + i * (b + b + 1)) (sm (fun c => f c * e c) i) → Bd (1 + w * (b + b + 1)) (sm (fun c => f c * e c) w) ∧ F_gantryref05_Dot_l8 K (mp f w) (mp e w) k (sm (fun c => f c * e c) i) (i : Int) = some (sm (fun c => f c * e c) w)
  | 0, i, k, hi, hk, ha => by
    obtain ⟨k', rfl, _⟩ := fuel hk
    have : i = w := by omega
    subst this
    exact ⟨ha, by simp only [F_gantryref05_Dot_l8, mp_len, dF (show ¬ (i : Int) < (i : Int) by omega), cF0]⟩
  | t + 1, i, k, hi, hk, ha => by
    obtain ⟨k', rfl, _⟩ := fuel hk
    have hx := hf i (by omega)
    have hy := he i (by omega)
    have hib : i * (b + b + 1) ≤ 100 * 2000001 := Nat.mul_le_mul (by omega) (by omega)
    have hs : 1 + i * (b + b + 1) + (b + b) + 1 = 1 + (i + 1) * (b + b + 1) := by rw [Nat.add_mul]; omega
    obtain ⟨r1, r2⟩ := Dot_l8 hf he hb hw K t (i + 1) k' (by omega) (by omega) (by simp only [sm]; exact (ha.add (hx.mul hy)).mono (by omega))
    refine ⟨r1, ?_⟩
    simp only [F_gantryref05_Dot_l8, mp_len, dT (show (i : Int) < (w : Int) by omega), cT0, rdMp (f := f) (show i < w by omega), rdMp (f := e) (show i < w by omega), oB, qmul_ok hx hy (by omega) (by omega), qadd_ok ha (hx.mul hy) (by omega) (by omega), ckS (i := i) (by omega)]
    exact r2
theorem Dot_ok {f e : Nat → Rat} {w b : Nat} (hf : ∀ c, c < w → Bd b (f c)) (he : ∀ c, c < w → Bd b (e c)) (hb : b ≤ 1000000) (hw : w ≤ 100) {K : Nat} (hK : w < K) : Bd (1 + w * (b + b + 1)) (sm (fun c => f c * e c) w) ∧ F_gantryref05_Dot K (mp f w) (mp e w) = some (sm (fun c => f c * e c) w) := by
  obtain ⟨r1, r2⟩ := Dot_l8 hf he hb hw K w 0 K (by omega) hK (Bd.zero.mono (by omega))
  simp only [Int.natCast_zero, sm] at r2
  exact ⟨r1, by simp only [F_gantryref05_Dot, r2, oB, F_gantryref05_Dot_j9]⟩
/-- A matrix times a vector. -/
def mulV (g : Nat → Nat → Rat) (v : Nat → Rat) (w i : Nat) : Rat := sm (fun c => g i c * v c) w
theorem rApply_l23 {g : Nat → Nat → Rat} {v : Nat → Rat} {h w b : Nat} (hg : Bdx h w b g) (hv : ∀ c, c < w → Bd b (v c)) (hb : b ≤ 1000000) (hh : h ≤ 100) (hw : w ≤ 100) {K : Nat} (hK : w < K) : ∀ (t i k : Nat), i + t = h → t < k → F_gantryref09_Apply_l23 K (mx g h w) (mp v w) k (mp (mulV g v w) i) (i : Int) = some (mp (mulV g v w) h)
  | 0, i, k, hi, hk => by
    obtain ⟨k', rfl, _⟩ := fuel hk
    have : i = h := by omega
    subst this
    simp only [F_gantryref09_Apply_l23, mx_len, dF (show ¬ (i : Int) < (i : Int) by omega), cF0]
  | t + 1, i, k, hi, hk => by
    obtain ⟨k', rfl, _⟩ := fuel hk
    have hd := (Dot_ok (f := g i) (fun c hc => hg i c (by omega) hc) hv hb hw hK).2
    have e : sm (fun c => g i c * v c) w = mulV g v w i := rfl
    rw [e] at hd
    simp only [F_gantryref09_Apply_l23, mx_len, dT (show (i : Int) < (h : Int) by omega), cT0, rdMx (g := g) (w := w) (show i < h by omega), oB, hd, apM (g := mulV g v w) (i := i) (by omega), ckS (i := i) (by omega)]
    exact rApply_l23 hg hv hb hh hw hK t (i + 1) k' (by omega) (by omega)
theorem rApply_ok {g : Nat → Nat → Rat} {v : Nat → Rat} {h w b : Nat} (hg : Bdx h w b g) (hv : ∀ c, c < w → Bd b (v c)) (hb : b ≤ 1000000) (hh : h ≤ 100) (hw : w ≤ 100) {K : Nat} (hK : w + h < K) : F_gantryref09_Apply K (mx g h w) (mp v w) = some (mp (mulV g v w) h) := by
  have := rApply_l23 hg hv hb hh hw (K := K) (by omega) h 0 K (by omega) (by omega)
  simp only [Int.natCast_zero, mp_zero] at this
  simp only [F_gantryref09_Apply, this, oB, F_gantryref09_Apply_j24]
theorem mulV_bd {g : Nat → Nat → Rat} {v : Nat → Rat} {h w b : Nat} (hg : Bdx h w b g) (hv : ∀ c, c < w → Bd b (v c)) (hb : b ≤ 1000000) (hw : w ≤ 100) {i : Nat} (hi : i < h) : Bd (1 + w * (b + b + 1)) (mulV g v w i) :=
  (Dot_ok (f := g i) (fun c hc => hg i c hi hc) hv hb hw (K := w + 1) (by omega)).1
theorem Solves_j9 {l : List Int} {how : Int} {h w : Nat} {g : Nat → Nat → Rat} {f : Nat → Rat} (hl : I64s l) (hi : I64 how) (hg : Bdx h w 2000 g) (hf : ∀ i, i < h → Bd 2000 (f i)) (hc : Cok h w) (hh : h ≤ 5) (hw : w ≤ 5) : Ev (fun K => F_gantrylaw09_MatrixSolves_j9 K l how ((h : Int), (w : Int)) (mx g h w) (mp f h)) true := by
  have h5 : 5 ^ w ≤ 5 ^ 5 := Nat.pow_le_pow_right (by omega) hw
  have hB : 5 ^ w * 2000 ≤ 200000000 := by omega
  obtain ⟨M, m1, m2, m3⟩ := ragged_ok (g := g) hh hw hc hi
  obtain ⟨r, r1, r2⟩ := Row_ok hl (at0 := 0) ⟨by omega, by omega⟩ (n := h + 1) (by omega)
  have e1 : chk ((h : Int) + 1) = some ((h + 1 : Nat) : Int) := ckN (m := 0) (by omega) (by omega)
  have rd := red_ok hg (by omega) w (Nat.le_refl _)
  obtain ⟨N, hN⟩ := lives09_ok
  refine ⟨N + 2000, fun K hK => ?_⟩
  obtain ⟨s1, s2, s3⟩ := Solve_ok hg hf hc (by omega) hB (show h ≤ 64 by omega) (show w ≤ 63 by omega) (K := K) (by omega)
  have k1 := Kernel_ok hg hc (by omega) hB (show h ≤ 64 by omega) (show w ≤ 64 by omega) (K := K) (by omega)
  have k2 := rKernel_ok hg hc (by omega) hB (show h ≤ 64 by omega) (show w ≤ 64 by omega) (K := K) (by omega)
  have k3 := Same_ok (M := kerL (red g h w) w w) (b := 5 ^ w * 2000) (fun r hr => ⟨kerL_bd rd.bd (pow_pos5 w 2000 (by omega)) rd.ph w (Nat.le_refl _) r hr, by rw [kerL_row _ r hr]; omega⟩) (by omega) (Nat.le_trans (kerL_len _ _ _) (by omega)) (K := K) (by omega)
  have sl := Solve_len (g := g) (b := mp r (h + 1)) hc (show h ≤ 64 by omega) (show w ≤ 64 by omega) (by rw [mp_len]; omega) (K := K) (by omega)
  have sb := Solve_bad (b := mp f h) m2 (K := K) (by omega)
  have kb := Kernel_bad m2 (K := K) (by omega)
  have hlv := hN K (by omega)
  simp only at hlv
  simp only [F_gantrylaw09_MatrixSolves_j9, s1, s2, oB, k1, e1, r2 K (by omega), sl, m1, sb, kb, nF (rfl : (0 : Int) = 0), cF0, k2, k3, Bool.not_true, nF (rfl : (1 : Int) = 1), hlv]
  cases hs : solved g f h w with
  | none => rfl
  | some x =>
    obtain ⟨x1, x2⟩ := s3 x hs
    simp only [Bool.not_true, cF0, qT (rfl : (0 : Int) = 0), cT0, SameRow_ok x2 (by omega) (show x.length ≤ 1000 by omega) (K := K) (by omega), oB]
theorem MatrixSolves_pure {a0 a1 : List Int} {a2 a3 : Int} (h0 : I64s a0) (h1 : I64s a1) (h2 : -9223372036854775808 ≤ a2 ∧ a2 ≤ 9223372036854775807) (h3 : -9223372036854775808 ≤ a3 ∧ a3 ≤ 9223372036854775807) : ∃ K, F_gantrylaw09_MatrixSolves K a0 a1 a2 a3 = some true := by
  obtain ⟨h, w, e1, hh, hw, hc⟩ := sizes_ok (n := a2) h2
  obtain ⟨g, g1, g2⟩ := Mat_ok h0 hh hw
  obtain ⟨f, f1, f2⟩ := Row_ok h1 (at0 := 0) ⟨by omega, by omega⟩ (n := h) (by omega)
  obtain ⟨x, x1, x2⟩ := Row_ok h1 (at0 := 0) ⟨by omega, by omega⟩ (n := w) (by omega)
  obtain ⟨v, v1⟩ := chr_rng (x := a3) (y := 3) (by omega)
  refine (?_ : Ev (fun K => F_gantrylaw09_MatrixSolves K a0 a1 a2 a3) true).get
  by_cases hv : v = 0
  · obtain ⟨N, hN⟩ := Solves_j9 (g := g) (f := f) h1 h3 (g1.mono (by omega)) (fun i hi => (f1 i hi).mono (by omega)) hc hh hw
    refine ⟨N + 20, fun K hK => ?_⟩
    have := hN K (by omega)
    simp only [F_gantrylaw09_MatrixSolves, e1, oB, g2 K (by omega), f2 K (by omega), v1, nF hv, cF0]
    exact this
  · have gv : ∀ c, c < w → Bd 100 (x c) := fun c hc' => (x1 c hc').mono (by omega)
    have hw' : w * (100 + 100 + 1) ≤ 5 * 201 := Nat.mul_le_mul_right _ hw
    obtain ⟨N, hN⟩ := Solves_j9 (g := g) (f := mulV g x w) h1 h3 (g1.mono (by omega)) (fun i hi => (mulV_bd g1 gv (by omega) (by omega) hi).mono (by omega)) hc hh hw
    refine ⟨N + 20, fun K hK => ?_⟩
    have := hN K (by omega)
    simp only [F_gantrylaw09_MatrixSolves, e1, oB, g2 K (by omega), f2 K (by omega), v1, nT hv, cT0, x2 K (by omega), rApply_ok g1 gv (by omega) (show h ≤ 100 by omega) (show w ≤ 100 by omega) (K := K) (by omega)]
    exact this
end Go.Proofs.YtkjnngaceacmdaaGreat
