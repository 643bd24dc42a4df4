/- The laws of package matrix: the generators, what is not valid, the examples. -/
import Derived.Test.YtkjnngaceacmdaaGreatMC
set_option linter.unusedVariables false
namespace Go.Proofs.YtkjnngaceacmdaaGreat

set_option maxRecDepth 100000 in
theorem lives09 (K : Nat) : F_gantrylaw09_lives (K + 40) = some true := by kernel_rfl
theorem lives09_ok : Ev (fun K => F_gantrylaw09_lives K) true := ⟨40, fun K hK => by
  obtain ⟨k, rfl⟩ := Nat.exists_eq_add_of_le hK
  rw [Nat.add_comm]; exact lives09 k⟩
/-- What a machine's integer is. -/
def I64 (x : Int) : Prop := -9223372036854775808 ≤ x ∧ x ≤ 9223372036854775807
theorem chq_rng {x y : Int} (hx : I64 x) (hy : 2 ≤ y) : ∃ v, chq x y = some v ∧ I64 v := by
  have h1 : (x.tdiv y).natAbs ≤ x.natAbs := by
    rw [Int.natAbs_tdiv]; exact Nat.div_le_self _ _
  have h2 : I64 (x.tdiv y) := by
    have h0 : (x.tdiv y).natAbs = x.natAbs / y.natAbs := Int.natAbs_tdiv x y
    have h3 : x.natAbs / y.natAbs ≤ x.natAbs / 2 := Nat.div_le_div_left (by omega) (by omega)
    unfold I64 at *
    omega
  refine ⟨x.tdiv y, ?_, h2⟩
  unfold chq
  rw [if_neg (by omega)]
  exact ckO h2
theorem chr_rng {x y : Int} (hy : y ≠ 0) : ∃ v, chr x y = some v := ⟨x.tmod y, by unfold chr; rw [if_neg hy]⟩
theorem sizes_ok {n : Int} (hn : I64 n) : ∃ r c : Nat, F_gantrylaw09_sizes n = some ((r : Int), (c : Int)) ∧ r ≤ 5 ∧ c ≤ 5 ∧ Cok r c := by
  obtain ⟨v, v1, v2, v3⟩ := Around_ok hn (m := 6) (by omega)
  obtain ⟨q, q1, q2⟩ := chq_rng hn (show (2 : Int) ≤ 6 by omega)
  obtain ⟨w, w1, w2, w3⟩ := Around_ok q2 (m := 6) (by omega)
  by_cases h0 : v = 0
  · refine ⟨0, 0, ?_, by omega, by omega, fun _ => rfl⟩
    simp only [F_gantrylaw09_sizes, v1, oB, q1, w1, h0]; rfl
  · refine ⟨v.toNat, w.toNat, ?_, by omega, by omega, fun h => by omega⟩
    simp only [F_gantrylaw09_sizes, v1, oB, q1, w1, qF h0, cF0, Int.toNat_of_nonneg v2, Int.toNat_of_nonneg w2]
theorem value_ok {n : Int} (hn : I64 n) : ∃ r, F_gantryref09_value n = some r ∧ Bd 8 r := by
  obtain ⟨v, v1, v2, v3⟩ := Around_ok hn (m := 1099511627776) (by omega)
  have m5 := mod_bd (a := v) (m := 5) v2 (by omega)
  have e1 : chr v 5 = some (v % 5) := chr_ok v2 (by omega)
  have e2 : chq v 5 = some (v / 5) := chq_ok v2 (by omega) (by omega)
  have m9 := mod_bd (a := v / 5) (m := 9) (by omega) (by omega)
  have e3 : chr (v / 5) 9 = some (v / 5 % 9) := chr_ok (by omega) (by omega)
  have e4 : chk (v / 5 % 9 - 4) = some (v / 5 % 9 - 4) := ckO (by omega)
  obtain ⟨p, p1, p2, p3⟩ := qof_bd (k := 8) (p := v / 5 % 9 - 4) (q := 1) (by omega) (by omega) (by omega) (by omega)
  obtain ⟨s, s1, s2⟩ := Small_ok (x := v / 5) (by omega)
  simp only [F_gantryref09_value, v1, oB, e1, F_gantryref09_value_j8, e2, e3, e4, p1, s1]
  by_cases h0 : v % 5 = 0
  · exact ⟨0, by simp only [qT h0, cT0], Bd.zero.mono (by omega)⟩
  · simp only [qF h0, cF0]
    by_cases h1 : v % 5 = 1
    · exact ⟨0, by simp only [qT h1, cT0], Bd.zero.mono (by omega)⟩
    · simp only [qF h1, cF0]
      by_cases h2 : v % 5 = 2
      · exact ⟨p, by simp only [qT h2, cT0], p3⟩
      · simp only [qF h2, cF0]
        by_cases h3 : v % 5 = 3
        · exact ⟨p, by simp only [qT h3, cT0], p3⟩
        · exact ⟨s, by simp only [qF h3, cF0], s2⟩
theorem Row_l23 {l : List Int} (hl : I64s l) (at0 : Int) (h0 : 0 ≤ at0 ∧ at0 ≤ 1000000) (n : Nat) (hn : n ≤ 1000) : ∀ (t i : Nat) (f : Nat → Rat), i + t = n → (∀ c, c < i → Bd 8 (f c)) → ∃ g : Nat → Rat, (∀ c, c < n → Bd 8 (g c)) ∧ ∀ K k, t < k → F_gantryref09_Row_l23 K l at0 (n : Int) k (mp f i) (i : Int) = some (mp g n)
  | 0, i, f, hi, hb => by
    have : i = n := by omega
    subst this
    exact ⟨f, hb, fun K k hk => by
      obtain ⟨k', rfl, _⟩ := fuel hk
      simp only [F_gantryref09_Row_l23, dF (show ¬ (i : Int) < (i : Int) by omega), cF0]⟩
  | t + 1, i, f, hi, hb => by
    obtain ⟨v, v1, v2, v3⟩ := At_ok hl (at0 + (i : Int)) (m := 1099511627776) (by omega)
    obtain ⟨q, q1, q2⟩ := value_ok (n := v) ⟨by omega, by omega⟩
    have e0 : chk (at0 + (i : Int)) = some (at0 + (i : Int)) := ckO (by omega)
    obtain ⟨g, g1, g2⟩ := Row_l23 hl at0 h0 n hn t (i + 1) (upd f i q) (by omega) (fun c hc => by
      by_cases he : c = i
      · rw [he, upd_same]; exact q2
      · rw [upd_ne he]; exact hb c (by omega))
    refine ⟨g, g1, fun K k hk => ?_⟩
    obtain ⟨k', rfl, _⟩ := fuel hk
    have e1 : mp f i ++ [q] = mp (upd f i q) (i + 1) := by
      rw [mp_succ, upd_same, mp_congr (f := upd f i q) (g := f) fun j hj => upd_ne (by omega)]
    simp only [F_gantryref09_Row_l23, dT (show (i : Int) < (n : Int) by omega), cT0, e0, oB, v1, q1, apS (xs := mp f i) (x := q) (by rw [mp_len]; omega), e1, ckS (i := i) (by omega)]
    exact g2 K k' (by omega)
theorem Row_ok {l : List Int} (hl : I64s l) {at0 : Int} (h0 : 0 ≤ at0 ∧ at0 ≤ 1000000) {n : Nat} (hn : n ≤ 1000) : ∃ g : Nat → Rat, (∀ c, c < n → Bd 8 (g c)) ∧ ∀ K, n < K → F_gantryref09_Row K l at0 (n : Int) = some (mp g n) := by
  obtain ⟨g, g1, g2⟩ := Row_l23 hl at0 h0 n hn n 0 (fun _ => 0) (by omega) (fun c hc => absurd hc (by omega))
  refine ⟨g, g1, fun K hK => ?_⟩
  have := g2 K K hK
  simp only [Int.natCast_zero, mp_zero] at this
  simp only [F_gantryref09_Row, this, oB, F_gantryref09_Row_j24]
/-- The rows as they are made. -/
theorem Mat_l23 {l : List Int} (hl : I64s l) {h w : Nat} (hh : h ≤ 5) (hw : w ≤ 5) : ∀ (t i : Nat) (g : Nat → Nat → Rat), i + t = h → (∀ j, j < i → ∀ c, c < w → Bd (9 + 18 * j) (g j c)) → ∃ g' : Nat → Nat → Rat, (∀ j, j < h → ∀ c, c < w → Bd (9 + 18 * j) (g' j c)) ∧ ∀ K k, w < K → t < k → F_gantryref09_Matrix_l23 K l 0 (h : Int) (w : Int) k (mx g i w) (i : Int) = some (mx g' h w)
  | 0, i, g, hi, hb => by
    have : i = h := by omega
    subst this
    exact ⟨g, hb, fun K k hK hk => by
      obtain ⟨k', rfl, _⟩ := fuel hk
      simp only [F_gantryref09_Matrix_l23, dF (show ¬ (i : Int) < (i : Int) by omega), cF0]⟩
  | t + 1, i, g, hi, hb => by
    have hiw : i * w ≤ 25 := Nat.le_trans (Nat.mul_le_mul (show i ≤ 5 by omega) hw) (by omega)
    have hhw : h * w ≤ 25 := Nat.le_trans (Nat.mul_le_mul hh hw) (by omega)
    have e1 : chk ((i : Int) * (w : Int)) = some ((i * w : Nat) : Int) := ckN (m := 0) (by rw [Int.natCast_mul]) (by omega)
    have e2 : chk ((0 : Int) + ((i * w : Nat) : Int)) = some ((i * w : Nat) : Int) := ckN (m := 0) (by omega) (by omega)
    have e3 : chk ((h : Int) * (w : Int)) = some ((h * w : Nat) : Int) := ckN (m := 0) (by rw [Int.natCast_mul]) (by omega)
    have e4 : chk ((0 : Int) + ((h * w : Nat) : Int)) = some ((h * w : Nat) : Int) := ckN (m := 0) (by omega) (by omega)
    have e5 : chk (((h * w : Nat) : Int) + (i : Int)) = some (((h * w : Nat) : Int) + (i : Int)) := ckO (by omega)
    obtain ⟨f, f1, f2⟩ := Row_ok hl (at0 := ((i * w : Nat) : Int)) ⟨by omega, by omega⟩ (n := w) (by omega)
    obtain ⟨v, v1, v2, v3⟩ := At_ok hl (((h * w : Nat) : Int) + (i : Int)) (m := 6) (by omega)
    -- the next row, whichever it is
    have go : ∀ (f' : Nat → Rat), (∀ c, c < w → Bd (9 + 18 * i) (f' c)) → ∃ g' : Nat → Nat → Rat, (∀ j, j < h → ∀ c, c < w → Bd (9 + 18 * j) (g' j c)) ∧ ∀ K k, w < K → t < k → F_gantryref09_Matrix_l23 K l 0 (h : Int) (w : Int) k (mx g i w ++ [mp f' w]) ((i + 1 : Nat) : Int) = some (mx g' h w) := by
      intro f' hf'
      obtain ⟨g', g1, g2⟩ := Mat_l23 hl hh hw t (i + 1) (upd g i f') (by omega) (fun j hj c hc => by
        by_cases he : j = i
        · rw [he, upd_same]; exact hf' c hc
        · rw [upd_ne he]; exact hb j (by omega) c hc)
      refine ⟨g', g1, fun K k hK hk => ?_⟩
      have e : mx g i w ++ [mp f' w] = mx (upd g i f') (i + 1) w := by
        unfold mx
        rw [mp_succ, upd_same, mp_congr (f := fun j => mp (upd g i f' j) w) (g := fun j => mp (g j) w) fun j hj => by rw [upd_ne (by omega)]]
      rw [e]; exact g2 K k hK hk
    have ap : ∀ f' : Nat → Rat, apL (mx g i w) [mp f' w] = some (mx g i w ++ [mp f' w]) := fun f' => apS (by rw [mx_len]; omega)
    by_cases hi0 : 0 < i
    · by_cases hk1 : v = 1
      · obtain ⟨g', g1, g2⟩ := go (g (i - 1)) (fun c hc => (hb (i - 1) (by omega) c hc).mono (by omega))
        refine ⟨g', g1, fun K k hK hk => ?_⟩
        obtain ⟨k', rfl, _⟩ := fuel hk
        have e6 : chk ((i : Int) - 1) = some ((i - 1 : Nat) : Int) := ckN (m := 0) (by omega) (by omega)
        simp only [F_gantryref09_Matrix_l23, dT (show (i : Int) < (h : Int) by omega), cT0, e1, e2, f2 K hK, e3, e4, e5, v1, oB, dT (show (0 : Int) < (i : Int) by omega), qF (show ¬ v = 0 by omega), cF0, F_gantryref09_Matrix_j42, qT hk1, e6, rdMx (g := g) (w := w) (show i - 1 < i by omega), ap, ckS (i := i) (by omega)]
        exact g2 K k' hK (by omega)
      · by_cases hk0 : v = 0
        · obtain ⟨u, u1, u2, u3⟩ := At_ok hl ((0 : Int) + (i : Int)) (m := 1099511627776) (by omega)
          obtain ⟨q, q1, q2⟩ := value_ok (n := u) ⟨by omega, by omega⟩
          have e6 : chk ((i : Int) - 1) = some ((i - 1 : Nat) : Int) := ckN (m := 0) (by omega) (by omega)
          have e7 : chk ((0 : Int) + (i : Int)) = some ((0 : Int) + (i : Int)) := ckO (by omega)
          have r0 := rdMx (g := g) (w := w) (show 0 < i by omega)
          simp only [Int.natCast_zero] at r0
          obtain ⟨g', g1, g2⟩ := go (fun c => g 0 c - q * g (i - 1) c) (fun c hc => ((hb 0 (by omega) c hc).sub (q2.mul (hb (i - 1) (by omega) c hc))).mono (by omega))
          refine ⟨g', g1, fun K k hK hk => ?_⟩
          obtain ⟨k', rfl, _⟩ := fuel hk
          simp only [F_gantryref09_Matrix_l23, dT (show (i : Int) < (h : Int) by omega), cT0, e1, e2, f2 K hK, e3, e4, e5, v1, oB, dT (show (0 : Int) < (i : Int) by omega), qT hk0, r0, e6, rdMx (g := g) (w := w) (show i - 1 < i by omega), e7, u1, q1, less_ok (f := g 0) (e := g (i - 1)) (b := 100) (b' := 100) (d := q) (fun c hc => (hb 0 (by omega) c hc).mono (by omega)) (fun c hc => (hb (i - 1) (by omega) c hc).mono (by omega)) (q2.mono (by omega)) (by omega) (by omega) hK, F_gantryref09_Matrix_j42, qF hk1, cF0, ap, ckS (i := i) (by omega)]
          exact g2 K k' hK (by omega)
        · obtain ⟨g', g1, g2⟩ := go f (fun c hc => (f1 c hc).mono (by omega))
          refine ⟨g', g1, fun K k hK hk => ?_⟩
          obtain ⟨k', rfl, _⟩ := fuel hk
          simp only [F_gantryref09_Matrix_l23, dT (show (i : Int) < (h : Int) by omega), cT0, e1, e2, f2 K hK, e3, e4, e5, v1, oB, dT (show (0 : Int) < (i : Int) by omega), qF hk0, cF0, F_gantryref09_Matrix_j42, qF hk1, ap, ckS (i := i) (by omega)]
          exact g2 K k' hK (by omega)
    · obtain ⟨g', g1, g2⟩ := go f (fun c hc => (f1 c hc).mono (by omega))
      refine ⟨g', g1, fun K k hK hk => ?_⟩
      obtain ⟨k', rfl, _⟩ := fuel hk
      simp only [F_gantryref09_Matrix_l23, dT (show (i : Int) < (h : Int) by omega), cT0, e1, e2, f2 K hK, e3, e4, e5, v1, oB, dF (show ¬ (0 : Int) < (i : Int) by omega), cF0, F_gantryref09_Matrix_j42, ap, ckS (i := i) (by omega)]
      exact g2 K k' hK (by omega)
theorem Mat_ok {l : List Int} (hl : I64s l) {h w : Nat} (hh : h ≤ 5) (hw : w ≤ 5) : ∃ g, Bdx h w 100 g ∧ ∀ K, 5 < K → F_gantryref09_Matrix K l 0 (h : Int) (w : Int) = some (mx g h w) := by
  obtain ⟨g, g1, g2⟩ := Mat_l23 hl hh hw h 0 (fun _ _ => 0) (by omega) (fun j hj => absurd hj (by omega))
  refine ⟨g, fun i c hi hc => (g1 i hi c hc).mono (by omega), fun K hK => ?_⟩
  have := g2 K K (by omega) (by omega)
  have e : mx (fun _ _ => (0 : Rat)) 0 w = [] := rfl
  rw [e] at this
  simp only [Int.natCast_zero] at this
  simp only [F_gantryref09_Matrix, this, oB, F_gantryref09_Matrix_j24]
end Go.Proofs.YtkjnngaceacmdaaGreat
