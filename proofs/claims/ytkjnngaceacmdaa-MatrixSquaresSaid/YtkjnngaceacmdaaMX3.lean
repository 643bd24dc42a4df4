/- The law MatrixSquares, without a program in sight. -/
import Derived.Test.YtkjnngaceacmdaaMX2
set_option linter.unusedVariables false
namespace Go.Proofs.Ytkjnngaceacmdaa

theorem square_sym {c : Nat → Nat → Rat} {m n : Nat} : symM (mulM (tr c) c m) n := fun i _ k _ => by
  unfold mulM mulV tr
  exact sm_congr fun j _ => Rat.mul_comm _ _
set_option maxRecDepth 10000 in
theorem Squares_j27 {c : Nat → Nat → Rat} {m n : Nat} (hc : Bdx m n 100 c) (hm1 : 1 ≤ m) (hm : m ≤ 4) (hn1 : 1 ≤ n) (hn : n ≤ 4) : Ev (fun K => F_gantrylaw09_MatrixSquares_j27 K (n : Int) (mx c m n)) true := by
  have tc : Bdx n m 100 (tr c) := fun i k hi hk => hc k i hk hi
  have hmn : Cok m n := fun h => by omega
  have hnm : Cok n m := fun h => by omega
  have hw : m * (100 + 100 + 1) ≤ 4 * 201 := Nat.mul_le_mul_right _ hm
  have cc : Bdx n n 1000 (mulM (tr c) c m) := (mulMg_bd tc hc).mono (by omega)
  have hB : 5 ^ n * 1000 ≤ 200000000 := Nat.le_trans (pow5_le hn) (by decide)
  have hB1 : 5 ^ n * 100 ≤ 200000000 := Nat.le_trans (pow5_le hn) (by decide)
  obtain ⟨N, hN⟩ := lives09_ok
  refine ⟨N + 2000, fun K hK => ?_⟩
  have hlv := hN K (by omega)
  simp only at hlv
  have t1 := Turn_ok (g := c) hmn (show m ≤ 64 by omega) (show n ≤ 64 by omega) (K := K) (by omega)
  have m1 := Mulg_ok tc hc hnm hmn (by omega) (show n ≤ 64 by omega) (show m ≤ 64 by omega) (show n ≤ 64 by omega) (K := K) (by omega)
  have r1 := Rank_ok hc hmn (by omega) hB1 (show m ≤ 64 by omega) (show n ≤ 64 by omega) (K := K) (by omega)
  obtain ⟨o, p1, p2⟩ := Positive_ok cc (by omega) hB (show n ≤ 64 by omega) (K := K) (by omega)
  have e : (o == ((rank c m n : Int) == (n : Int))) = true := by
    by_cases h : rank c m n = n
    · rw [qT (show (rank c m n : Int) = (n : Int) by omega), p2.2 ⟨square_sym, square_pos.2 h⟩]; rfl
    · rw [qF (show ¬ (rank c m n : Int) = (n : Int) by omega)]
      have : o ≠ true := fun ho => h (square_pos.1 (p2.1 ho).2)
      cases o
      · rfl
      · exact absurd rfl this
  simp only [F_gantrylaw09_MatrixSquares_j27, t1, oB, m1, r1, qT (rfl : (0 : Int) = 0), cT0, p1, e, hlv]
/-- The solution is the inverse times the right side. -/
theorem inv_solves {g : Nat → Nat → Rat} {b : Nat → Rat} {n : Nat} (hf : rank g n n = n) : solved g b n n = some (mp (mulV (invM g n) b n) n) := by
  have hs : ∀ i, i < n → mulV g (mulV (invM g n) b n) n i = b i := fun i hi => by
    have e : mulV g (mulV (invM g n) b n) n i = sm (fun k => mulM g (invM g n) n i k * b k) n := by
      unfold mulV mulM mulV tr
      rw [sm_congr (g := fun c => sm (fun k => g i c * (invM g n c k * b k)) n) fun c _ => by rw [← sm_mulL], sm_swap]
      refine sm_congr fun k _ => ?_
      rw [← sm_scale]
      exact sm_congr fun c _ => by grind
    rw [e, sm_one (p := i) hi fun k hk hne => by
      rw [inv_right hf hi hk]
      unfold unitM
      rw [if_neg (fun e => hne e.symm)]; grind, inv_right hf hi hi]
    unfold unitM
    rw [if_pos rfl]; grind
  obtain ⟨h1, h2⟩ := solved_ok hs
  rw [h1]
  congr 1
  refine mp_congr fun c hc => ?_
  have := rank_inj hf (y := fun c => svec (red (wid g b n) n n) n (red (wid g b n) n n).ps.length c - 1 * mulV (invM g n) b n c) (fun i hi => by
    have e : mulV g (fun c => svec (red (wid g b n) n n) n (red (wid g b n) n n).ps.length c - 1 * mulV (invM g n) b n c) n i = mulV g (svec (red (wid g b n) n n) n (red (wid g b n) n n).ps.length) n i - 1 * mulV g (mulV (invM g n) b n) n i := by
      unfold mulV
      rw [← sm_lin]
      exact sm_congr fun c _ => by grind
    rw [e, h2 i hi, hs i hi]; grind) hc
  grind
set_option maxRecDepth 10000 in
theorem MatrixSquares_pure {a0 a1 : List Int} {a2 : Int} (h0 : I64s a0) (h1 : I64s a1) (h2 : -9223372036854775808 ≤ a2 ∧ a2 ≤ 9223372036854775807) : ∃ K, F_gantrylaw09_MatrixSquares K a0 a1 a2 = some true := by
  obtain ⟨n, v, e1, e2, hn1, hn4⟩ := size_ok (n := a2) h2 (m := 4) (by omega)
  obtain ⟨q4, e3, hq4⟩ := chq_rng (x := a2) (y := 4) h2 (by omega)
  obtain ⟨m, v', e4, e5, hm1, hm4⟩ := size_ok hq4 (m := 4) (by omega)
  have hn : n ≤ 4 := by omega
  have hm : m ≤ 4 := by omega
  obtain ⟨g, g1, g2⟩ := Mat_ok h0 (show n ≤ 5 by omega) (show n ≤ 5 by omega)
  obtain ⟨c, c1, c2⟩ := Mat_ok h1 (show m ≤ 5 by omega) (show n ≤ 5 by omega)
  obtain ⟨b, b1, b2⟩ := Row_ok h1 (at0 := 0) ⟨by omega, by omega⟩ (n := n) (by omega)
  have hB1 : 5 ^ n * 100 ≤ 62500 := Nat.le_trans (pow5_le hn) (by decide)
  have hb100 : ∀ i, i < n → Bd 100 (b i) := fun i hi => (b1 i hi).mono (by omega)
  obtain ⟨N, hN⟩ := Squares_j27 c1 hm1 hm hn1 hn
  refine (?_ : Ev (fun K => F_gantrylaw09_MatrixSquares K a0 a1 a2) true).get
  refine ⟨N + 2000, fun K hK => ?_⟩
  have hj := hN K (by omega)
  simp only at hj
  have d1 := Det_ok g1 (by omega) (show 5 ^ n * 100 ≤ 200000000 by omega) (show n ≤ 64 by omega) (K := K) (by omega)
  have d2 := qsgn_ok (det_bd g1 (by omega)) (by omega)
  have i1 := Inverse_ok g1 (by omega) (show 5 ^ n * 100 ≤ 200000000 by omega) (show n ≤ 64 by omega) (K := K) (by omega)
  have ibd : Bdx n n 62500 (invM g n) := (inv_bd g1 (by omega)).mono (by omega)
  simp only [F_gantrylaw09_MatrixSquares, e1, oB, e2, g2 K (by omega), b2 K (by omega), e3, e4, e5, c2 K (by omega), d1, i1, nF (rfl : (0 : Int) = 0), cF0, d2]
  by_cases hf : rank g n n = n
  · have hne : (dt n g).num.sign ≠ 0 := fun h => dt_rank.2 hf (sgn0.1 h)
    have hw1 : n * (62500 + 8 + 1) ≤ 4 * (62500 + 8 + 1) := Nat.mul_le_mul_right _ hn
    have hw2 : n * (62500 + 100 + 1) ≤ 4 * (62500 + 100 + 1) := Nat.mul_le_mul_right _ hn
    have ap := Applyg_ok ibd b1 (Cok_self n) (Nat.le_trans hw1 (by decide)) (show n ≤ 64 by omega) (show n ≤ 64 by omega) (K := K) (by omega)
    have so := pSolve_ok g1 hb100 (Cok_self n) (by omega) (show 5 ^ n * 100 ≤ 200000000 by omega) (show n ≤ 64 by omega) (show n ≤ 63 by omega) (K := K) (by omega)
    rw [inv_solves hf] at so
    have mu := Mulg_ok g1 ibd (Cok_self n) (Cok_self n) (Nat.le_trans hw2 (by decide)) (show n ≤ 64 by omega) (show n ≤ 64 by omega) (show n ≤ 64 by omega) (K := K) (by omega)
    rw [mx_congr (g := mulM g (invM g n) n) (g' := unitM) fun i j hi hj => inv_right hf hi hj] at mu
    have s1 := SameRow_ok (l := mp (mulV (invM g n) b n) n) (b := 1 + n * (62500 + 8 + 1)) (mp_bds fun i hi => sm_bd (fun c hc => ibd i c hi hc) b1 n (Nat.le_refl _)) (Nat.le_trans (Nat.add_le_add_left hw1 1) (by decide)) (by rw [mp_len]; omega) (K := K) (by rw [mp_len]; omega)
    have s2 := SameM (g := unitM) (h := n) (w := n) (b := 2) (fun i c _ _ => unit_bd (by omega) i c) (by omega) (by omega) (by omega) (K := K) (by omega)
    simp only [if_pos hf, qT (rfl : (0 : Int) = 0), nT hne, bne_self_eq_false, cF0, cT0, ap, oB, so, mu, nF (rfl : (0 : Int) = 0), s1, Bool.not_true, Unit_ok (show n ≤ 1000 by omega) (K := K) (by omega), s2, hj]
  · have hz : (dt n g).num.sign = 0 := sgn0.2 (Classical.byContradiction fun h => hf (dt_rank.1 h))
    simp only [if_neg hf, qF (show ¬ (6 : Int) = 0 by omega), nF hz, bne_self_eq_false, cF0, hj]
end Go.Proofs.Ytkjnngaceacmdaa
