/- Long division (Knuth's algorithm D), as the program does it. -/
import Derived.Test.YtkjnngaceacmdaaGreatP4
set_option linter.unusedVariables false
namespace Go.Proofs.YtkjnngaceacmdaaGreat

/-- The guess is too great. -/
theorem guess_hi {P V X Y w Q g : Int} (hP : 0 < P) (hV1 : X * P ≤ V) (hw2 : w < (Y + 1) * P) (hQ1 : Q * V ≤ w) (hg : 0 ≤ g) (h : Y + 1 ≤ g * X) (hV : 0 ≤ V) : Q < g := by
  rcases Int.lt_or_le Q g with h1 | h1
  · exact h1
  · exfalso
    have a : g * V ≤ Q * V := Int.mul_le_mul_of_nonneg_right h1 hV
    have b : (Y + 1) * P ≤ g * X * P := Int.mul_le_mul_of_nonneg_right h (by omega)
    have c : g * (X * P) ≤ g * V := Int.mul_le_mul_of_nonneg_left hV1 hg
    rw [Int.mul_assoc] at b
    omega
/-- The guess is too great by one at most. -/
theorem guess_lo {P V X Y w Q g : Int} (hP : 0 < P) (hV2 : V < (X + 1) * P) (hw1 : Y * P ≤ w) (hQ2 : w < (Q + 1) * V) (hg : g ≤ X) (h : g * X ≤ Y) (hQ : 0 ≤ Q) (hV : 0 ≤ V) : g ≤ Q + 1 := by
  rcases Int.lt_or_le (Q + 1) g with h1 | h1
  · exfalso
    have a : (Q + 1) * V ≤ (g - 1) * V := Int.mul_le_mul_of_nonneg_right (by omega) hV
    have b : (g - 1) * V ≤ (g - 1) * ((X + 1) * P) := Int.mul_le_mul_of_nonneg_left (by omega) (by omega)
    have c : g * X * P ≤ Y * P := Int.mul_le_mul_of_nonneg_right h (by omega)
    have d : (g - 1) * ((X + 1) * P) = g * X * P + (g - X - 1) * P := by grind
    have e : (g - X - 1) * P ≤ (-1) * P := Int.mul_le_mul_of_nonneg_right (by omega) (by omega)
    omega
  · exact h1
theorem lt_of_mul {a b c : Int} (hc : 0 < c) (h : a * c < b * c) : a < b := Int.lt_of_mul_lt_mul_right h (by omega)
theorem long_l111 {b v u : List Int} {N j : Nat} {P V w Q v1 v2 u2 top : Int} (hb : b.length = N + 2) (hb2 : b.length ≤ 9000000000000) (hvl : v.length = N + 2) (huj : j + N < u.length) (hj : j ≤ 9000000000000) (e1 : v.getD (N + 1) 0 = v1) (e2 : v.getD N 0 = v2) (e3 : u.getD (j + N) 0 = u2)
    (hP : 0 < P) (hV : 0 ≤ V) (hv1 : 500000000 ≤ v1) (hv1' : v1 < 1000000000) (hv2 : 0 ≤ v2) (hv2' : v2 < 1000000000) (hu2 : 0 ≤ u2) (hu2' : u2 < 1000000000)
    (hV1 : (v1 * 1000000000 + v2) * P ≤ V) (hV2 : V < (v1 * 1000000000 + v2 + 1) * P) (hw1 : (top * 1000000000 + u2) * P ≤ w) (hw2 : w < (top * 1000000000 + u2 + 1) * P) (hwV : w < V * 1000000000) (hQ : 0 ≤ Q) (hQ1 : Q * V ≤ w) (hQ2 : w < (Q + 1) * V) :
    ∀ (n : Nat) (g r : Int), 0 ≤ r → r < 1000000000 → 1000000000 ≤ r + n * 500000000 → g * v1 + r = top → Q ≤ g → g ≤ 1000000001 →
    ∃ g', (Q ≤ g' ∧ g' ≤ Q + 1 ∧ g' < 1000000000) ∧ ∀ K k, n < k → F_integer_long_l111 K b v u (j : Int) k g r = some g'
  | 0, g, r, h0, h1, h2, _, _, _ => by omega
  | n + 1, g, r, h0, h1, h2, h3, h4, h5 => by
    have QB : Q < 1000000000 := by
      have hVpos : 0 < V := by
        rcases Int.lt_or_le 0 V with h | h
        · exact h
        · have : V = 0 := by omega
          subst this
          omega
      exact lt_of_mul hVpos (by rw [Int.mul_comm 1000000000 V]; omega)
    have htop : top ≤ v1 * 1000000000 + v2 := by
      have t1 : (top * 1000000000) * P ≤ (top * 1000000000 + u2) * P := Int.mul_le_mul_of_nonneg_right (by omega) (by omega)
      have t2 : (top * 1000000000) * P < ((v1 * 1000000000 + v2 + 1) * 1000000000) * P := by
        have : (v1 * 1000000000 + v2 + 1) * 1000000000 * P = (v1 * 1000000000 + v2 + 1) * P * 1000000000 := by grind
        rw [this]
        omega
      have t3 := lt_of_mul hP t2
      omega
    have c0 : chk ((b.length : Int) - 1) = some ((N + 1 : Nat) : Int) := ckN (m := 0) (by omega) (by omega)
    have c1 := rdL_ok (xs := v) (i := N + 1) (by omega)
    rw [e1] at c1
    have c2 : chk ((b.length : Int) - 2) = some ((N : Nat) : Int) := ckN (m := 0) (by omega) (by omega)
    have c3 := rdL_ok (xs := v) (i := N) (by omega)
    rw [e2] at c3
    have c4 : chk ((j : Int) + (b.length : Int)) = some ((j + N + 2 : Nat) : Int) := ckN (m := 0) (by omega) (by omega)
    have c5 : chk (((j + N + 2 : Nat) : Int) - 2) = some ((j + N : Nat) : Int) := ckN (m := 0) (by omega) (by omega)
    have c6 := rdL_ok (xs := u) (i := j + N) huj
    rw [e3] at c6
    have c7 : chk (r + v1) = some (r + v1) := ckO (by omega)
    have c8 : chk (g - 1) = some (g - 1) := ckO (by omega)
    -- one less
    have less : Q < g → ∃ g', (Q ≤ g' ∧ g' ≤ Q + 1 ∧ g' < 1000000000) ∧ ∀ K k, n < k → (bif decide (1000000000 ≤ r + v1) then some (g - 1) else F_integer_long_l111 K b v u (j : Int) k (g - 1) (r + v1)) = some g' := by
      intro hlt
      have h3' : (g - 1) * v1 + (r + v1) = top := by rw [Int.sub_mul]; omega
      by_cases hr : 1000000000 ≤ r + v1
      · have hg1 : (g - 1) * v1 < 1000000000 * v1 := by omega
        have hg2 : g - 1 < 1000000000 := lt_of_mul (by omega) hg1
        have hg3 : (g - 1) * (v1 * 1000000000 + v2) ≤ top * 1000000000 + u2 := by
          have m1 : (g - 1) * v2 ≤ 999999999 * 999999999 := Int.mul_le_mul (by omega) (by omega) hv2 (by omega)
          have m2 : (g - 1) * (v1 * 1000000000 + v2) = ((g - 1) * v1) * 1000000000 + (g - 1) * v2 := by grind
          rw [m2]
          omega
        refine ⟨g - 1, ⟨by omega, guess_lo hP hV2 hw1 hQ2 (by omega) hg3 hQ hV, hg2⟩, fun K k hk => ?_⟩
        rw [dT hr, cT0]
      · obtain ⟨g', i1, i2⟩ := long_l111 hb hb2 hvl huj hj e1 e2 e3 hP hV hv1 hv1' hv2 hv2' hu2 hu2' hV1 hV2 hw1 hw2 hwV hQ hQ1 hQ2 n (g - 1) (r + v1) (by omega) (by omega) (by omega) h3' (by omega) (by omega)
        refine ⟨g', i1, fun K k hk => ?_⟩
        rw [dF hr, cF0]
        exact i2 K k hk
    by_cases hg : 1000000000 ≤ g
    · obtain ⟨g', i1, i2⟩ := less (by omega)
      refine ⟨g', i1, fun K k hk => ?_⟩
      obtain ⟨k', rfl, _⟩ := fuel hk
      simp only [F_integer_long_l111, dT hg, cT0, oB, c0, c1, c7, c8]
      exact i2 K k' (by omega)
    · have m := mul_bd (x := g) (y := v2) (by omega) (by omega) hv2 hv2'
      have c9 : chk (g * v2) = some (g * v2) := ckO (by omega)
      have c10 : chk (r * 1000000000) = some (r * 1000000000) := ckO (by omega)
      have c11 : chk (r * 1000000000 + u2) = some (r * 1000000000 + u2) := ckO (by omega)
      have m2 : g * (v1 * 1000000000 + v2) = (g * v1) * 1000000000 + g * v2 := by grind
      by_cases hc : r * 1000000000 + u2 < g * v2
      · obtain ⟨g', i1, i2⟩ := less (guess_hi hP hV1 hw2 hQ1 (by omega) (by rw [m2]; omega) hV)
        refine ⟨g', i1, fun K k hk => ?_⟩
        obtain ⟨k', rfl, _⟩ := fuel hk
        simp only [F_integer_long_l111, dF hg, cF0, cT0, oB, c0, c1, c2, c3, c4, c5, c6, c7, c8, c9, c10, c11, dT hc]
        exact i2 K k' (by omega)
      · refine ⟨g, ⟨h4, guess_lo hP hV2 hw1 hQ2 (by omega) (by rw [m2]; omega) hQ hV, by omega⟩, fun K k hk => ?_⟩
        obtain ⟨k', rfl, _⟩ := fuel hk
        simp only [F_integer_long_l111, dF hg, cF0, oB, c2, c3, c4, c5, c6, c9, c10, c11, dF hc]
/-- A multiple is taken away, digit by digit. -/
structure SubP (u0 v : List Int) (j : Nat) (g : Int) (u : List Int) (c : Int) (i : Nat) : Prop where
  len : u.length = u0.length
  ok : DOk u
  c0 : 0 ≤ c
  c1 : c < 1000000000
  same : ∀ s, s < j ∨ j + i ≤ s → u.getD s 0 = u0.getD s 0
  val : W u j i - c * PB i = W u0 j i - g * W v 0 i
theorem SubP.step {u0 v u : List Int} {j i : Nat} {g c x c' : Int} (h : SubP u0 v j g u c i) (hl : j + i < u0.length) (hx0 : 0 ≤ x) (hx1 : x < 1000000000) (h0 : 0 ≤ c') (h1 : c' < 1000000000) (hv : x = u.getD (j + i) 0 - g * v.getD i 0 - c + c' * 1000000000) : SubP u0 v j g (u.set (j + i) x) c' (i + 1) where
  len := by simpa using h.len
  ok := h.ok.set hx0 hx1
  c0 := h0
  c1 := h1
  same := fun s hs => by rw [getD_set_ne (by omega)]; exact h.same s (by omega)
  val := by
    have hlen := h.len
    have hs := h.same (j + i) (.inr (Nat.le_refl _))
    have hval := h.val
    rw [W_succ, W_succ, W_succ, getD_set_eq (by omega), W_set (.inr (by omega)), Nat.zero_add]
    simp only [PB]
    rw [hs] at hv
    grind
theorem long_l136 {b v u0 : List Int} {j : Nat} {g : Int} (hg0 : 0 ≤ g) (hg1 : g < 1000000000) (hv : DOk v) (hvl : b.length ≤ v.length) (hl : j + b.length ≤ u0.length) (hL : u0.length ≤ 9000000000000) : ∀ (t i : Nat) (u : List Int) (c : Int), i + t = b.length → SubP u0 v j g u c i →
    ∃ u' c', SubP u0 v j g u' c' b.length ∧ ∀ K k, t < k → F_integer_long_l136 K b v (j : Int) g k u c (i : Int) = some (u', c')
  | 0, i, u, c, hi, hP => by
    have : i = b.length := by omega
    subst this
    refine ⟨u, c, hP, fun K k hk => ?_⟩
    obtain ⟨k', rfl, _⟩ := fuel hk
    simp [F_integer_long_l136]
  | t + 1, i, u, c, hi, hP => by
    have hlen := hP.len
    have c0 := hP.c0
    have c1 := hP.c1
    have hu := hP.ok (j + i)
    have hvi := hv i
    have m := mul_bd hg0 hg1 hvi.1 hvi.2
    have e1 : decide ((i : Int) < (b.length : Int)) = true := dT (by omega)
    have e2 : chk ((i : Int) + (j : Int)) = some ((j + i : Nat) : Int) := ckN (m := 0) (by omega) (by omega)
    have e3 := rdL_ok (xs := u) (i := j + i) (by omega)
    have e4 := rdL_ok (xs := v) (i := i) (by omega)
    have e5 : chk (g * v.getD i 0) = some (g * v.getD i 0) := ckO (by omega)
    have e6 : chk (u.getD (j + i) 0 - g * v.getD i 0) = some (u.getD (j + i) 0 - g * v.getD i 0) := ckO (by omega)
    have e8 : chk ((i : Int) + 1) = some ((i + 1 : Nat) : Int) := ckN (m := 0) (by omega) (by omega)
    have e9 : ∀ x, stL u ((j + i : Nat) : Int) x = some (u.set (j + i) x) := fun x => stL_ok (by omega)
    obtain ⟨z, hz⟩ : ∃ z, u.getD (j + i) 0 - g * v.getD i 0 - c = z := ⟨_, rfl⟩
    have e7 : chk (u.getD (j + i) 0 - g * v.getD i 0 - c) = some z := by rw [hz]; exact ckO (by omega)
    by_cases hneg : z < 0
    · have f1 : chk (-z) = some (-z) := ckO (by omega)
      have f2 : chk (-z + 1000000000) = some (-z + 1000000000) := ckO (by omega)
      have f3 : chk (-z + 1000000000 - 1) = some (-z + 1000000000 - 1) := ckO (by omega)
      have f4 : chq (-z + 1000000000 - 1) 1000000000 = some ((-z + 1000000000 - 1) / 1000000000) := chq_ok (by omega) (by omega) (by omega)
      have f5 : chk ((-z + 1000000000 - 1) / 1000000000 * 1000000000) = some ((-z + 1000000000 - 1) / 1000000000 * 1000000000) := ckO (by omega)
      have f6 : chk (z + (-z + 1000000000 - 1) / 1000000000 * 1000000000) = some (z + (-z + 1000000000 - 1) / 1000000000 * 1000000000) := ckO (by omega)
      obtain ⟨u', c', h1, h2⟩ := long_l136 hg0 hg1 hv hvl hl hL t (i + 1) _ _ (by omega) (hP.step (x := z + (-z + 1000000000 - 1) / 1000000000 * 1000000000) (c' := (-z + 1000000000 - 1) / 1000000000) (by omega) (by omega) (by omega) (by omega) (by omega) (by omega))
      refine ⟨u', c', h1, fun K k hk => ?_⟩
      obtain ⟨k', rfl, _⟩ := fuel hk
      simp only [F_integer_long_l136, e1, e2, e3, e4, e5, e6, e7, e8, e9, f1, f2, f3, f4, f5, f6, dT hneg, cT0, oB]
      exact h2 K k' (by omega)
    · obtain ⟨u', c', h1, h2⟩ := long_l136 hg0 hg1 hv hvl hl hL t (i + 1) _ _ (by omega) (hP.step (x := z) (c' := 0) (by omega) (by omega) (by omega) (by omega) (by omega) (by omega))
      refine ⟨u', c', h1, fun K k hk => ?_⟩
      obtain ⟨k', rfl, _⟩ := fuel hk
      simp only [F_integer_long_l136, e1, e2, e3, e4, e5, e6, e7, e8, e9, dF hneg, cT0, cF0, oB]
      exact h2 K k' (by omega)
/-- What was too much is given back. -/
structure BackP (u0 v : List Int) (j : Nat) (u : List Int) (c : Int) (i : Nat) : Prop where
  len : u.length = u0.length
  ok : ∀ s, s < j + v.length → 0 ≤ u.getD s 0 ∧ u.getD s 0 < 1000000000
  c0 : 0 ≤ c
  c1 : c ≤ 1
  same : ∀ s, s < j ∨ j + i ≤ s → u.getD s 0 = u0.getD s 0
  val : W u j i + c * PB i = W u0 j i + W v 0 i
theorem BackP.step {u0 v u : List Int} {j i : Nat} {c x c' : Int} (h : BackP u0 v j u c i) (hl : j + i < u0.length) (hx0 : 0 ≤ x) (hx1 : x < 1000000000) (h0 : 0 ≤ c') (h1 : c' ≤ 1) (hv : x + c' * 1000000000 = u.getD (j + i) 0 + v.getD i 0 + c) : BackP u0 v j (u.set (j + i) x) c' (i + 1) where
  len := by simpa using h.len
  ok := fun s hs => by
    rw [getD_set]; split
    · exact ⟨hx0, hx1⟩
    · exact h.ok s hs
  c0 := h0
  c1 := h1
  same := fun s hs => by rw [getD_set_ne (by omega)]; exact h.same s (by omega)
  val := by
    have hlen := h.len
    have hs := h.same (j + i) (.inr (Nat.le_refl _))
    have hval := h.val
    rw [W_succ, W_succ, W_succ, getD_set_eq (by omega), W_set (.inr (by omega)), Nat.zero_add]
    simp only [PB]
    rw [hs] at hv
    grind
theorem long_l179 {b v u0 : List Int} {j : Nat} (hv : DOk v) (hvl : b.length = v.length) (hl : j + b.length ≤ u0.length) (hL : u0.length ≤ 9000000000000) : ∀ (t i : Nat) (u : List Int) (c : Int), i + t = b.length → BackP u0 v j u c i →
    ∃ u' c', BackP u0 v j u' c' b.length ∧ ∀ K k, t < k → F_integer_long_l179 K b v (j : Int) k u c (i : Int) = some (u', c')
  | 0, i, u, c, hi, hP => by
    have : i = b.length := by omega
    subst this
    refine ⟨u, c, hP, fun K k hk => ?_⟩
    obtain ⟨k', rfl, _⟩ := fuel hk
    simp [F_integer_long_l179]
  | t + 1, i, u, c, hi, hP => by
    have hlen := hP.len
    have c0 := hP.c0
    have c1 := hP.c1
    have hu := hP.ok (j + i) (by omega)
    have hvi := hv i
    have e1 : decide ((i : Int) < (b.length : Int)) = true := dT (by omega)
    have e2 : chk ((i : Int) + (j : Int)) = some ((j + i : Nat) : Int) := ckN (m := 0) (by omega) (by omega)
    have e3 := rdL_ok (xs := u) (i := j + i) (by omega)
    have e4 := rdL_ok (xs := v) (i := i) (by omega)
    have e5 : chk (u.getD (j + i) 0 + v.getD i 0) = some (u.getD (j + i) 0 + v.getD i 0) := ckO (by omega)
    have e6 : chk (u.getD (j + i) 0 + v.getD i 0 + c) = some (u.getD (j + i) 0 + v.getD i 0 + c) := ckO (by omega)
    have e7 : chr (u.getD (j + i) 0 + v.getD i 0 + c) 1000000000 = some ((u.getD (j + i) 0 + v.getD i 0 + c) % 1000000000) := chr_ok (by omega) (by omega)
    have e9 : chq (u.getD (j + i) 0 + v.getD i 0 + c) 1000000000 = some ((u.getD (j + i) 0 + v.getD i 0 + c) / 1000000000) := chq_ok (by omega) (by omega) (by omega)
    have e8 : chk ((i : Int) + 1) = some ((i + 1 : Nat) : Int) := ckN (m := 0) (by omega) (by omega)
    have e10 : ∀ x, stL u ((j + i : Nat) : Int) x = some (u.set (j + i) x) := fun x => stL_ok (by omega)
    obtain ⟨u', c', h1, h2⟩ := long_l179 hv hvl hl hL t (i + 1) _ _ (by omega) (hP.step (x := (u.getD (j + i) 0 + v.getD i 0 + c) % 1000000000) (c' := (u.getD (j + i) 0 + v.getD i 0 + c) / 1000000000) (by omega) (by omega) (by omega) (by omega) (by omega) (by omega))
    refine ⟨u', c', h1, fun K k hk => ?_⟩
    obtain ⟨k', rfl, _⟩ := fuel hk
    simp only [F_integer_long_l179, e1, e2, e3, e4, e5, e6, e7, e8, e9, e10, cT0, oB]
    exact h2 K k' (by omega)
/-- The state of the division ahead of the digit j. -/
structure LongP (m n : Nat) (v : List Int) (S : Int) (q u : List Int) (J : Nat) : Prop where
  ql : q.length = m - n + 1
  ul : u.length = m + 1
  uok : DOk u
  qok : ∀ s, J ≤ s → 0 ≤ q.getD s 0 ∧ q.getD s 0 < 1000000000
  lt : vD u < vD v * PB J
  val : S = vD v * (PB J * W q J (m - n + 1 - J)) + vD u
/-- Digits behind those that the value fills are 0. -/
theorem W_fill {u : List Int} {k c : Nat} (hu : DOk u) (h : W u 0 (k + c) < PB k) : W u 0 (k + c) = W u 0 k := by
  rw [W_add] at h ⊢
  have h1 := (W_lt (hu.dr 0 k)).1
  have h2 := (W_lt (hu.dr (0 + k) c)).1
  have hp := PB_pos k
  rcases Int.lt_or_le 0 (W u (0 + k) c) with h3 | h3
  · have : PB k * 1 ≤ PB k * W u (0 + k) c := Int.mul_le_mul_of_nonneg_left h3 (by omega)
    omega
  · have : W u (0 + k) c = 0 := by omega
    rw [this]; simp
/-- The digit j is found. -/
theorem LongP.next {m n j : Nat} {v q u u4 : List Int} {S Q w : Int} (h : LongP m n v S q u (j + 1)) (hj : j + 1 ≤ m - n + 1) (hnm : n ≤ m) (hv : DOk v) (hvl : v.length = n) (hw : W u j (n + 1) = w) (hQ : 0 ≤ Q) (hQB : Q < 1000000000) (hQ1 : Q * vD v ≤ w) (hQ2 : w < (Q + 1) * vD v)
    (h1 : u4.length = m + 1) (h2 : DOk u4) (h3 : ∀ s, s < j ∨ j + n < s → u4.getD s 0 = u.getD s 0) (h4 : W u4 j (n + 1) = w - Q * vD v) : LongP m n v S (q.set j Q) u4 j := by
  have hV := hv.lt
  rw [hvl] at hV
  have hR : W u 0 (m + 1) = W u 0 j + PB j * w := by
    have hlt := h.lt
    unfold vD at hlt hV
    rw [h.ul] at hlt
    have hb : W v 0 v.length * PB (j + 1) ≤ PB n * PB (j + 1) := Int.mul_le_mul_of_nonneg_right (by omega) (by have := PB_pos (j + 1); omega)
    rw [← PB_add, show n + (j + 1) = j + (n + 1) by omega] at hb
    obtain ⟨c, hc⟩ : ∃ c, m + 1 = (j + (n + 1)) + c := ⟨m - j - n, by omega⟩
    rw [hc] at hlt ⊢
    rw [W_fill h.uok (by omega), W_add, Nat.zero_add, hw]
  have hR4 : W u4 0 (m + 1) = W u 0 j + PB j * (w - Q * vD v) := by
    obtain ⟨c, hc⟩ : ∃ c, m + 1 = (j + (n + 1)) + c := ⟨m - j - n, by omega⟩
    have hz : W u4 (j + (n + 1)) c = W u (j + (n + 1)) c := W_ext fun s _ => h3 _ (.inr (by omega))
    have hz0 : PB (j + (n + 1)) * W u (j + (n + 1)) c = 0 := by
      have e := hR
      rw [hc, W_add, W_add u 0 j, Nat.zero_add, Nat.zero_add, hw] at e
      omega
    have hl : W u4 0 j = W u 0 j := W_ext fun s hs => by rw [Nat.zero_add]; exact h3 s (.inl hs)
    rw [hc, W_add, W_add u4 0 j, Nat.zero_add, Nat.zero_add, hz, hz0, hl, h4]
    omega
  have hlo := (W_lt (h.uok.dr 0 j)).2
  have hlo0 := (W_lt (h.uok.dr 0 j)).1
  refine ⟨by simpa using h.ql, h1, h2, fun s hs => ?_, ?_, ?_⟩
  · rw [getD_set]
    by_cases e : s = j
    · rw [if_pos ⟨e, by have := h.ql; omega⟩]; exact ⟨hQ, hQB⟩
    · rw [if_neg (fun x => e x.1)]; exact h.qok s (by omega)
  · show W u4 0 u4.length < _
    rw [h1, hR4]
    have : PB j * (w - Q * vD v) ≤ PB j * (vD v - 1) := Int.mul_le_mul_of_nonneg_left (by rw [Int.add_mul] at hQ2; omega) (by omega)
    have e : PB j * (vD v - 1) = vD v * PB j - PB j := by grind
    omega
  · have hval := h.val
    have e1 : vD u = W u 0 (m + 1) := by unfold vD; rw [h.ul]
    have e2 : vD u4 = W u4 0 (m + 1) := by unfold vD; rw [h1]
    rw [e1, hR] at hval
    have hql := h.ql
    rw [e2, hR4, show m - n + 1 - j = (m - n + 1 - (j + 1)) + 1 by omega, W_head, getD_set_eq (by omega), W_set (.inl (by omega))]
    simp only [PB] at hval
    rw [hval]
    grind
theorem long_l69 {b v : List Int} {N m : Nat} {S : Int} (hb : b.length = N + 2) (hL : m ≤ 900000000000) (hnm : N + 2 ≤ m) (hv : DOk v) (hvl : v.length = N + 2) (hv1 : 500000000 ≤ v.getD (N + 1) 0) : ∀ (J : Nat) (q u : List Int), J ≤ m - (N + 2) + 1 → LongP m (N + 2) v S q u J →
    ∃ q' u', LongP m (N + 2) v S q' u' 0 ∧ Ev2 (fun K k => F_integer_long_l69 K b v k q u ((J : Int) - 1)) (q', u')
  | 0, q, u, _, h => ⟨q, u, h, Ev2.of 1 fun K k hk => by
      obtain ⟨k', rfl, _⟩ := fuel (n := 0) hk
      simp [F_integer_long_l69]⟩
  | j + 1, q, u, hJ, h => by
    have hul := h.ul
    have hql := h.ql
    obtain ⟨v1, e1⟩ : ∃ x, v.getD (N + 1) 0 = x := ⟨_, rfl⟩
    obtain ⟨v2, e2⟩ : ∃ x, v.getD N 0 = x := ⟨_, rfl⟩
    obtain ⟨u2, e3⟩ : ∃ x, u.getD (j + N) 0 = x := ⟨_, rfl⟩
    obtain ⟨u1, e4⟩ : ∃ x, u.getD (j + N + 1) 0 = x := ⟨_, rfl⟩
    obtain ⟨u0, e5⟩ : ∃ x, u.getD (j + N + 2) 0 = x := ⟨_, rfl⟩
    have d1 := hv (N + 1); have d2 := hv N; have d3 := h.uok (j + N); have d4 := h.uok (j + N + 1); have d5 := h.uok (j + N + 2)
    rw [e1] at d1 hv1; rw [e2] at d2; rw [e3] at d3; rw [e4] at d4; rw [e5] at d5
    have hP := PB_pos N
    have hVd : vD v = W v 0 N + (v1 * 1000000000 + v2) * PB N := by
      unfold vD
      rw [hvl, W_add, Nat.zero_add, W2, e1, e2, Int.mul_comm (PB N)]; grind
    have hwl := W_lt (h.uok.dr j N)
    have hvl2 := W_lt (hv.dr 0 N)
    obtain ⟨w, hw⟩ : ∃ x, W u j (N + 2 + 1) = x := ⟨_, rfl⟩
    have hwd : w = W u j N + ((u0 * 1000000000 + u1) * 1000000000 + u2) * PB N := by
      rw [← hw, show N + 2 + 1 = N + 3 by omega, W_add, W_head, W_head, W1, e3, e4, show j + N + 1 + 1 = j + N + 2 by omega, e5]; grind
    have hVn := hv.nonneg
    have hVpos : 0 < vD v := by
      have : 1 * PB N ≤ (v1 * 1000000000 + v2) * PB N := Int.mul_le_mul_of_nonneg_right (by omega) (by omega)
      omega
    obtain ⟨V, hV⟩ : ∃ x, vD v = x := ⟨_, rfl⟩
    have hVlt := hv.lt
    rw [hvl] at hVlt
    rw [hV] at hVd hVpos hVn hVlt
    -- the window
    have hwV : w < V * 1000000000 := by
      have hlt := h.lt
      rw [hV] at hlt
      have hb' : V * PB (j + 1) ≤ PB (N + 2) * PB (j + 1) := Int.mul_le_mul_of_nonneg_right (by omega) (by have := PB_pos (j + 1); omega)
      rw [← PB_add, show N + 2 + (j + 1) = j + (N + 2 + 1) by omega] at hb'
      obtain ⟨c, hc⟩ : ∃ c, m + 1 = (j + (N + 2 + 1)) + c := ⟨m - j - (N + 2), by omega⟩
      unfold vD at hlt
      rw [hul, hc] at hlt
      rw [W_fill h.uok (by omega), W_add, Nat.zero_add, hw] at hlt
      have h0 := (W_lt (h.uok.dr 0 j)).1
      simp only [PB] at hlt
      have : w * PB j < V * 1000000000 * PB j := by
        rw [Int.mul_assoc, Int.mul_comm 1000000000, Int.mul_comm w]; omega
      exact lt_of_mul (PB_pos j) this
    have hw0 : 0 ≤ w := by rw [← hw]; exact (W_lt (h.uok.dr j _)).1
    obtain ⟨Q, hQ⟩ : ∃ x, w / V = x := ⟨_, rfl⟩
    have hQ0 : 0 ≤ Q := by rw [← hQ]; exact Int.ediv_nonneg hw0 (by omega)
    have hdm := Int.mul_ediv_add_emod w V
    have hm0 := Int.emod_nonneg w (show V ≠ 0 by omega)
    have hm1 := Int.emod_lt_of_pos w hVpos
    rw [hQ] at hdm
    have hQ1 : Q * V ≤ w := by rw [Int.mul_comm]; omega
    have hQ2 : w < (Q + 1) * V := by rw [Int.add_mul, Int.mul_comm]; omega
    have hQB : Q < 1000000000 := lt_of_mul hVpos (by rw [Int.mul_comm 1000000000 V]; omega)
    obtain ⟨top, htop⟩ : ∃ x, u0 * 1000000000 + u1 = x := ⟨_, rfl⟩
    have hV1 : (v1 * 1000000000 + v2) * PB N ≤ V := by omega
    have hV2 : V < (v1 * 1000000000 + v2 + 1) * PB N := by rw [Int.add_mul, Int.one_mul]; omega
    have hw1 : (top * 1000000000 + u2) * PB N ≤ w := by rw [← htop]; omega
    have hw2 : w < (top * 1000000000 + u2 + 1) * PB N := by rw [← htop, Int.add_mul _ 1, Int.one_mul]; omega
    have htlim : top ≤ v1 * 1000000000 + v2 := by
      have t1 : (top * 1000000000) * PB N ≤ (top * 1000000000 + u2) * PB N := Int.mul_le_mul_of_nonneg_right (by omega) (by omega)
      have t2 : (top * 1000000000) * PB N < ((v1 * 1000000000 + v2 + 1) * 1000000000) * PB N := by
        have : (v1 * 1000000000 + v2 + 1) * 1000000000 * PB N = (v1 * 1000000000 + v2 + 1) * PB N * 1000000000 := by grind
        rw [this]
        omega
      have t3 := lt_of_mul hP t2
      omega
    obtain ⟨g0, hg0⟩ : ∃ x, top / v1 = x := ⟨_, rfl⟩
    obtain ⟨r0, hr0⟩ : ∃ x, top % v1 = x := ⟨_, rfl⟩
    have hdm2 := Int.mul_ediv_add_emod top v1
    have hr1 := Int.emod_nonneg top (show v1 ≠ 0 by omega)
    have hr2 := Int.emod_lt_of_pos top (show 0 < v1 by omega)
    rw [hg0, hr0] at hdm2
    rw [hr0] at hr1 hr2
    have hg00 : 0 ≤ g0 := by rw [← hg0]; exact Int.ediv_nonneg (by omega) (by omega)
    have hgq : Q < g0 + 1 := by
      refine guess_hi hP hV1 hw2 hQ1 (by omega) ?_ (by omega)
      have m1 : (g0 + 1) * (v1 * 1000000000 + v2) = (v1 * g0 + v1) * 1000000000 + (g0 + 1) * v2 := by grind
      have m2 : 0 ≤ (g0 + 1) * v2 := Int.mul_nonneg (by omega) d2.1
      rw [m1]
      omega
    have hgm : g0 ≤ 1000000001 := by
      have : g0 * v1 < 1000000002 * v1 := by rw [Int.mul_comm g0]; omega
      have := lt_of_mul (show 0 < v1 by omega) this
      omega
    obtain ⟨g, ⟨hg1, hg2, hg3⟩, hgF⟩ := long_l111 (b := b) (v := v) (u := u) (j := j) hb (by omega) hvl (by omega) (by omega) e1 e2 e3 hP (Int.le_of_lt hVpos) hv1 d1.2 d2.1 d2.2 d3.1 d3.2 hV1 hV2 hw1 hw2 hwV hQ0 hQ1 hQ2 2 g0 r0 hr1 (by omega) (by omega) (by rw [Int.mul_comm]; omega) (by omega) hgm
    obtain ⟨u', c', hS, hSF⟩ := long_l136 (b := b) (v := v) (u0 := u) (j := j) (g := g) (by omega) hg3 hv (by omega) (by omega) (by omega) b.length 0 u 0 (by omega) ⟨rfl, h.uok, by omega, by omega, fun _ _ => rfl, by simp [W]⟩
    have hSl := hS.len
    have hSc0 := hS.c0
    have hSc1 := hS.c1
    have hSv := hS.val
    rw [hb] at hSv
    have hSs : u'.getD (j + N + 2) 0 = u0 := by rw [hS.same _ (.inr (by omega)), e5]
    obtain ⟨t, ht⟩ : ∃ x, u0 - c' = x := ⟨_, rfl⟩
    have hVW : W v 0 (N + 2) = V := by rw [← hV]; unfold vD; rw [hvl]
    rw [hVW] at hSv
    have hWn : w = W u j (N + 2) + u0 * PB (N + 2) := by rw [← hw, W_succ, ← Nat.add_assoc, e5]
    have hWu' := W_lt (hS.ok.dr j (N + 2))
    have hPn := PB_pos (N + 2)
    have hD : W u' j (N + 2) + t * PB (N + 2) = w - g * V := by rw [← ht, Int.sub_mul]; omega
    -- what is read
    have i1 : decide (0 ≤ (j : Int)) = true := dT (by omega)
    have i0 : ((j + 1 : Nat) : Int) - 1 = (j : Int) := by omega
    have i2 : chk ((j : Int) + (b.length : Int)) = some ((j + N + 2 : Nat) : Int) := ckN (m := 0) (by omega) (by omega)
    have i3 := rdL_ok (xs := u) (i := j + N + 2) (by omega)
    rw [e5] at i3
    have i4 : chk (u0 * 1000000000) = some (u0 * 1000000000) := ckO (by omega)
    have i5 : chk (((j + N + 2 : Nat) : Int) - 1) = some ((j + N + 1 : Nat) : Int) := ckN (m := 0) (by omega) (by omega)
    have i6 := rdL_ok (xs := u) (i := j + N + 1) (by omega)
    rw [e4] at i6
    have i7 : chk (u0 * 1000000000 + u1) = some top := by rw [htop]; exact ckO (by omega)
    have i8 : chk ((b.length : Int) - 1) = some ((N + 1 : Nat) : Int) := ckN (m := 0) (by omega) (by omega)
    have i9 := rdL_ok (xs := v) (i := N + 1) (by omega)
    rw [e1] at i9
    have i10 : chq top v1 = some g0 := by rw [← hg0]; exact chq_ok (by omega) (by omega) (by omega)
    have i11 : chr top v1 = some r0 := by rw [← hr0]; exact chr_ok (by omega) (by omega)
    have i12 := rdL_ok (xs := u') (i := j + N + 2) (by omega)
    rw [hSs] at i12
    have i13 : chk (u0 - c') = some t := by rw [ht]; exact ckO (by omega)
    have i14 : stL u' ((j + N + 2 : Nat) : Int) t = some (u'.set (j + N + 2) t) := stL_ok (by omega)
    have i15 : rdL (u'.set (j + N + 2) t) ((j + N + 2 : Nat) : Int) = some t := by rw [rdL_ok (by simp; omega), getD_set_eq (by omega)]
    have i16 : chk ((j : Int) - 1) = some ((j : Int) - 1) := ckO (by omega)
    have i17 := rdL_ok (xs := q) (i := j) (by omega)
    have i18 : ∀ x, stL q (j : Int) x = some (q.set j x) := fun x => stL_ok (by omega)
    have hgF' : Ev (fun K => F_integer_long_l111 K b v u (j : Int) K g0 r0) g := ⟨3, fun K hK => hgF K K (by omega)⟩
    have hSF' : Ev (fun K => F_integer_long_l136 K b v (j : Int) g K u 0 0) (u', c') := ⟨b.length + 1, fun K hK => hSF K K (by omega)⟩
    by_cases hneg : t < 0
    · -- one too many
      have hgQ : g = Q + 1 := by
        have : t * PB (N + 2) ≤ (-1) * PB (N + 2) := Int.mul_le_mul_of_nonneg_right (by omega) (by omega)
        rcases Int.lt_or_le Q g with h1 | h1
        · omega
        · have : g = Q := by omega
          subst this
          omega
      obtain ⟨u3, c3, hB, hBF⟩ := long_l179 (b := b) (v := v) (u0 := u'.set (j + N + 2) t) (j := j) hv (by omega) (by simp; omega) (by simp; omega) b.length 0 (u'.set (j + N + 2) t) 0 (by omega)
        ⟨rfl, fun s hs => by rw [getD_set_ne (by omega)]; exact hS.ok s, by omega, by omega, fun _ _ => rfl, by simp [W]⟩
      have hBl := hB.len
      simp only [List.length_set] at hBl
      have hBs : u3.getD (j + N + 2) 0 = t := by rw [hB.same _ (.inr (by omega)), getD_set_eq (by omega)]
      have hBv := hB.val
      rw [hb, W_set (.inr (by omega)), hVW] at hBv
      have hWu3 := W_lt (u := u3) (j := j) (n := N + 2) fun s hs => hB.ok _ (by omega)
      have hx : t + c3 = 0 := by
        have hfin : W u3 j (N + 2) + (t + c3) * PB (N + 2) = w - Q * V := by
          rw [hgQ, Int.add_mul, Int.one_mul] at hD
          rw [Int.add_mul]; omega
        have hlim : w - Q * V < V := by rw [Int.add_mul] at hQ2; omega
        rcases Int.lt_trichotomy (t + c3) 0 with hx | hx | hx
        · have : (t + c3) * PB (N + 2) ≤ (-1) * PB (N + 2) := Int.mul_le_mul_of_nonneg_right (by omega) (by omega)
          omega
        · exact hx
        · have : 1 * PB (N + 2) ≤ (t + c3) * PB (N + 2) := Int.mul_le_mul_of_nonneg_right (by omega) (by omega)
          omega
      obtain ⟨q', u'', h5, h6⟩ := long_l69 hb hL hnm hv hvl (by rw [e1]; exact hv1) j (q.set j Q) (u3.set (j + N + 2) (t + c3)) (by omega)
        (h.next hJ hnm hv hvl hw hQ0 hQB (by rw [hV]; exact hQ1) (by rw [hV]; exact hQ2) (by simp; omega) (fun s => by
            rw [getD_set]
            by_cases e : s = j + N + 2
            · rw [if_pos ⟨e, by omega⟩, hx]; omega
            · rw [if_neg (fun x => e x.1)]
              rcases Nat.lt_or_ge s (j + N + 2) with h1 | h1
              · exact hB.ok s (by omega)
              · rw [hB.same s (.inr (by omega)), getD_set_ne (by omega), hS.same s (.inr (by omega))]; exact h.uok s) (fun s hs => by
            rw [getD_set_ne (by omega)]
            rw [hB.same s (by omega), getD_set_ne (by omega), hS.same s (by omega)]) (by
            rw [W_succ, ← Nat.add_assoc, getD_set_eq (by omega), W_set (.inr (by omega)), hV]
            rw [hgQ, Int.add_mul, Int.one_mul] at hD
            rw [Int.add_mul]; omega))
      refine ⟨q', u'', h5, Ev2.step ?_⟩
      have k1 : chk (g - 1) = some Q := by rw [show g - 1 = Q by omega]; exact ckO (by omega)
      have k2 := rdL_ok (xs := u3) (i := j + N + 2) (by omega)
      rw [hBs] at k2
      have hc30 := hB.c0
      have hc31 := hB.c1
      have k3 : chk (t + c3) = some (t + c3) := ckO (by omega)
      have k4 : stL u3 ((j + N + 2 : Nat) : Int) (t + c3) = some (u3.set (j + N + 2) (t + c3)) := stL_ok (by omega)
      have hBF' : Ev (fun K => F_integer_long_l179 K b v (j : Int) K (u'.set (j + N + 2) t) 0 0) (u3, c3) := ⟨b.length + 1, fun K hK => hBF K K (by omega)⟩
      rw [i0]
      simp only [F_integer_long_l69, i1, i2, i3, i4, i5, i6, i7, i8, i9, i10, i11, cT0, oB]
      refine Ev2.bind hgF' ?_
      simp only [F_integer_long_j112]
      refine Ev2.bind hSF' ?_
      simp only [F_integer_long_j137, i2, i12, i13, i14, i15, dT hneg, cT0, oB, k1]
      refine Ev2.bind hBF' ?_
      simp only [F_integer_long_j180, i2, k2, k3, k4, i17, i18, i16, oB]
      exact h6
    · have hgQ : g = Q := by
        have : 0 ≤ t * PB (N + 2) := Int.mul_nonneg (by omega) (by omega)
        rcases Int.lt_or_le Q g with h1 | h1
        · have : g = Q + 1 := by omega
          subst this
          omega
        · omega
      subst hgQ
      have hx : t = 0 := by
        have hlim : w - g * V < V := by rw [Int.add_mul] at hQ2; omega
        rcases Int.lt_or_le 0 t with hx | hx
        · have : 1 * PB (N + 2) ≤ t * PB (N + 2) := Int.mul_le_mul_of_nonneg_right (by omega) (by omega)
          omega
        · omega
      obtain ⟨q', u'', h5, h6⟩ := long_l69 hb hL hnm hv hvl (by rw [e1]; exact hv1) j (q.set j g) (u'.set (j + N + 2) t) (by omega)
        (h.next hJ hnm hv hvl hw hQ0 hQB (by rw [hV]; exact hQ1) (by rw [hV]; exact hQ2) (by simp; omega) (hS.ok.set (by omega) (by omega)) (fun s hs => by
            rw [getD_set_ne (by omega)]
            rw [hS.same s (by omega)]) (by
            rw [W_succ, ← Nat.add_assoc, getD_set_eq (by omega), W_set (.inr (by omega)), hV]
            omega))
      refine ⟨q', u'', h5, Ev2.step ?_⟩
      rw [i0]
      simp only [F_integer_long_l69, i1, i2, i3, i4, i5, i6, i7, i8, i9, i10, i11, cT0, oB]
      refine Ev2.bind hgF' ?_
      simp only [F_integer_long_j112]
      refine Ev2.bind hSF' ?_
      simp only [F_integer_long_j137, i2, i12, i13, i14, i15, dF hneg, cF0, oB, i17, i18, i16]
      exact h6
end Go.Proofs.YtkjnngaceacmdaaGreat
