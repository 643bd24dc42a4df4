/- The laws of package matrix: the generators, what is not valid, the examples. -/
import Derived.Test.YtkjnngaceacmdaaGreatMC
set_option linter.unusedVariables false
namespace Go.Proofs.YtkjnngaceacmdaaGreat

set_option maxRecDepth 100000 in
theorem lives09 (K : Nat) : F_gantrylaw09_lives (K + 40) = some true := by kernel_rfl
theorem lives09_ok : Ev (fun K => F_gantrylaw09_lives K) true := ⟨40, fun K hK => by
  obtain ⟨k, rfl⟩ := Nat.exists_eq_add_of_le hK
  rw [Nat.add_comm]; exact lives09 k⟩
/-- What a machine's integer is. -/
def I64 (x : Int) : Prop := -9223372036854775808 ≤ x ∧ x ≤ 9223372036854775807
theorem chq_rng {x y : Int} (hx : I64 x) (hy : 2 ≤ y) : ∃ v, chq x y = some v ∧ I64 v := by
  have h1 : (x.tdiv y).natAbs ≤ x.natAbs := by
    rw [Int.natAbs_tdiv]; exact Nat.div_le_self _ _
  have h2 : I64 (x.tdiv y) := by
    have h0 : (x.tdiv y).natAbs = x.natAbs / y.natAbs := Int.natAbs_tdiv x y
    have h3 : x.natAbs / y.natAbs ≤ x.natAbs / 2 := Nat.div_le_div_left (by omega) (by omega)
    unfold I64 at *
    omega
  refine ⟨x.tdiv y, ?_, h2⟩
  unfold chq
  rw [if_neg (by omega)]
  exact ckO h2
theorem chr_rng {x y : Int} (hy : y ≠ 0) : ∃ v, chr x y = some v := ⟨x.tmod y, by unfold chr; rw [if_neg hy]⟩
theorem sizes_ok {n : Int} (hn : I64 n) : ∃ r c : Nat, F_gantrylaw09_sizes n = some ((r : Int), (c : Int)) ∧ r ≤ 5 ∧ c ≤ 5 ∧ Cok r c := by
  obtain ⟨v, v1, v2, v3⟩ := Around_ok hn (m := 6) (by omega)
  obtain ⟨q, q1, q2⟩ := chq_rng hn (show (2 : Int) ≤ 6 by omega)
  obtain ⟨w, w1, w2, w3⟩ := Around_ok q2 (m := 6) (by omega)
  by_cases h0 : v = 0
  · refine ⟨0, 0, ?_, by omega, by omega, fun _ => rfl⟩
    simp only [F_gantrylaw09_sizes, v1, oB, q1, w1, h0]; rfl
  · refine ⟨v.toNat, w.toNat, ?_, by omega, by omega, fun h => by omega⟩
    simp only [F_gantrylaw09_sizes, v1, oB, q1, w1, qF h0, cF0, Int.toNat_of_nonneg v2, Int.toNat_of_nonneg w2]
theorem value_ok {n : Int} (hn : I64 n) : ∃ r, F_gantryref09_value n = some r ∧ Bd 8 r := by
  obtain ⟨v, v1, v2, v3⟩ := Around_ok hn (m := 1099511627776) (by omega)
  have m5 := mod_bd (a := v) (m := 5) v2 (by omega)
  have e1 : chr v 5 = some (v % 5) := chr_ok v2 (by omega)
  have e2 : chq v 5 = some (v / 5) := chq_ok v2 (by omega) (by omega)
  have m9 := mod_bd (a := v / 5) (m := 9) (by omega) (by omega)
  have e3 : chr (v / 5) 9 = some (v / 5 % 9) := chr_ok (by omega) (by omega)
  have e4 : chk (v / 5 % 9 - 4) = some (v / 5 % 9 - 4) := ckO (by omega)
  obtain ⟨p, p1, p2, p3⟩ := qof_bd (k := 8) (p := v / 5 % 9 - 4) (q := 1) (by omega) (by omega) (by omega) (by omega)
  obtain ⟨s, s1, s2⟩ := Small_ok (x := v / 5) (by omega)
  simp only [F_gantryref09_value, v1, oB, e1, F_gantryref09_value_j8, e2, e3, e4, p1, s1]
  by_cases h0 : v % 5 = 0
  · exact ⟨0, by simp only [qT h0, cT0], Bd.zero.mono (by omega)⟩
  · simp only [qF h0, cF0]
    by_cases h1 : v % 5 = 1
    · exact ⟨0, by simp only [qT h1, cT0], Bd.zero.mono (by omega)⟩
    · simp only [qF h1, cF0]
      by_cases h2 : v % 5 = 2
      · exact ⟨p, by simp only [qT h2, cT0], p3⟩
      · simp only [qF h2, cF0]
        by_cases h3 : v % 5 = 3
        · exact ⟨p, by simp only [qT h3, cT0], p3⟩
        · exact ⟨s, by simp only [qF h3, cF0], s2⟩
theorem Row_l23 {l : List Int} (hl : I64s l) (at0 : Int) (h0 : 0 ≤ at0 ∧ at0 ≤ 1000000) (n : Nat) (hn : n ≤ 1000) : ∀ (t i : Nat) (f : Nat → Rat), i + t = n → (∀ c, c < i → Bd 8 (f c)) → ∃ g : Nat → Rat, (∀ c, c < n → Bd 8 (g c)) ∧ ∀ K k, t < k → F_gantryref09_Row_l25 K l at0 (n : Int) k (mp f i) (i : Int) = some (mp g n)
  | 0, i, f, hi, hb => by
    have : i = n := by omega
    subst this
    exact ⟨f, hb, fun K k hk => by
      obtain ⟨k', rfl, _⟩ := fuel hk
      simp only [F_gantryref09_Row_l25, dF (show ¬ (i : Int) < (i : Int) by omega), cF0]⟩
  | t + 1, i, f, hi, hb => by
    obtain ⟨v, v1, v2, v3⟩ := At_ok hl (at0 + (i : Int)) (m := 1099511627776) (by omega)
    obtain ⟨q, q1, q2⟩ := value_ok (n := v) ⟨by omega, by omega⟩
    have e0 : chk (at0 + (i : Int)) = some (at0 + (i : Int)) := ckO (by omega)
    obtain ⟨g, g1, g2⟩ := Row_l23 hl at0 h0 n hn t (i + 1) (upd f i q) (by omega) (fun c hc => by
      by_cases he : c = i
      · rw [he, upd_same]; exact q2
      · rw [upd_ne he]; exact hb c (by omega))
    refine ⟨g, g1, fun K k hk => ?_⟩
    obtain ⟨k', rfl, _⟩ := fuel hk
    have e1 : mp f i ++ [q] = mp (upd f i q) (i + 1) := by
      rw [mp_succ, upd_same, mp_congr (f := upd f i q) (g := f) fun j hj => upd_ne (by omega)]
    simp only [F_gantryref09_Row_l25, dT (show (i : Int) < (n : Int) by omega), cT0, e0, oB, v1, q1, apS (xs := mp f i) (x := q) (by rw [mp_len]; omega), e1, ckS (i := i) (by omega)]
    exact g2 K k' (by omega)
theorem Row_ok {l : List Int} (hl : I64s l) {at0 : Int} (h0 : 0 ≤ at0 ∧ at0 ≤ 1000000) {n : Nat} (hn : n ≤ 1000) : ∃ g : Nat → Rat, (∀ c, c < n → Bd 8 (g c)) ∧ ∀ K, n < K → F_gantryref09_Row K l at0 (n : Int) = some (mp g n) := by
  obtain ⟨g, g1, g2⟩ := Row_l23 hl at0 h0 n hn n 0 (fun _ => 0) (by omega) (fun c hc => absurd hc (by omega))
  refine ⟨g, g1, fun K hK => ?_⟩
  have := g2 K K hK
  simp only [Int.natCast_zero, mp_zero] at this
  simp only [F_gantryref09_Row, this, oB, F_gantryref09_Row_j26]
end Go.Proofs.YtkjnngaceacmdaaGreat
