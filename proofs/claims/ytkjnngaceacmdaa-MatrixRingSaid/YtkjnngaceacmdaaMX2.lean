/- The law MatrixRing, without a program in sight. -/
import Derived.Test.YtkjnngaceacmdaaMD
set_option linter.unusedVariables false
namespace Go.Proofs.Ytkjnngaceacmdaa

/-- A size from 1 on. -/
theorem size_ok {n m : Int} (hn : I64 n) (hm : 0 < m ∧ m ≤ 1000) : ∃ s : Nat, ∃ v, F_gantryref01_Around n m = some v ∧ chk (1 + v) = some (s : Int) ∧ 1 ≤ s ∧ (s : Int) ≤ m := by
  obtain ⟨v, v1, v2, v3⟩ := Around_ok hn (m := m) (by omega)
  exact ⟨(1 + v).toNat, v, v1, ckN (m := 0) (by omega) (by omega), by omega, by omega⟩
set_option maxRecDepth 10000 in
theorem MatrixRing_pure {a0 a1 a2 : List Int} {a3 : Int} (h0 : I64s a0) (h1 : I64s a1) (h2 : I64s a2) (h3 : -9223372036854775808 ≤ a3 ∧ a3 ≤ 9223372036854775807) : ∃ K, F_gantrylaw09_MatrixRing K a0 a1 a2 a3 = some true := by
  obtain ⟨n, v, e1, e2, hn1, hn4⟩ := size_ok (n := a3) h3 (m := 4) (by omega)
  obtain ⟨q4, e3, hq4⟩ := chq_rng (x := a3) (y := 4) h3 (by omega)
  obtain ⟨m, v', e4, e5, hm1, hm4⟩ := size_ok hq4 (m := 4) (by omega)
  have hn : n ≤ 4 := by omega
  have hm : m ≤ 4 := by omega
  obtain ⟨a, a1', a2'⟩ := Mat_ok h0 (show n ≤ 5 by omega) (show n ≤ 5 by omega)
  obtain ⟨b, b1, b2⟩ := Mat_ok h1 (show n ≤ 5 by omega) (show n ≤ 5 by omega)
  obtain ⟨c, c1, c2⟩ := Mat_ok h2 (show n ≤ 5 by omega) (show m ≤ 5 by omega)
  have hnm : Cok n m := fun h => by omega
  have hmn : Cok m n := fun h => by omega
  have hw : n * (100 + 100 + 1) ≤ 4 * 201 := Nat.mul_le_mul_right _ hn
  have hw2 : n * (100 + 1000 + 1) ≤ 4 * 1101 := Nat.mul_le_mul_right _ hn
  have hw3 : n * (1000 + 100 + 1) ≤ 4 * 1101 := Nat.mul_le_mul_right _ hn
  have hB : 5 ^ n * 1000 ≤ 200000000 := Nat.le_trans (pow5_le hn) (by decide)
  have hB1 : 5 ^ n * 100 ≤ 200000000 := Nat.le_trans (pow5_le hn) (by decide)
  have hBm : 5 ^ m * 100 ≤ 200000000 := Nat.le_trans (pow5_le hm) (by decide)
  have ab : Bdx n n 1000 (mulM a b n) := (mulMg_bd a1' b1).mono (by omega)
  have bc : Bdx n m 1000 (mulM b c n) := (mulMg_bd b1 c1).mono (by omega)
  have xb : Bdx n m 10000 (mulM (mulM a b n) c n) := (mulMg_bd ab c1).mono (by omega)
  have tb : Bdx m n 100 (tr c) := fun i k hi hk => c1 k i hk hi
  have ta' : Bdx n n 100 (tr a) := fun i k hi hk => a1' k i hk hi
  have tb' : Bdx n n 100 (tr b) := fun i k hi hk => b1 k i hk hi
  have tab : Bdx n n 1000 (tr (mulM a b n)) := fun i k hi hk => ab k i hk hi
  obtain ⟨N, hN⟩ := lives09_ok
  refine (?_ : Ev (fun K => F_gantrylaw09_MatrixRing K a0 a1 a2 a3) true).get
  refine ⟨N + 2000, fun K hK => ?_⟩
  have hlv := hN K (by omega)
  simp only at hlv
  have m1 := Mulg_ok a1' b1 (Cok_self n) (Cok_self n) (by omega) (show n ≤ 64 by omega) (show n ≤ 64 by omega) (show n ≤ 64 by omega) (K := K) (by omega)
  have m2 := Mulg_ok b1 c1 (Cok_self n) hnm (by omega) (show n ≤ 64 by omega) (show n ≤ 64 by omega) (show m ≤ 64 by omega) (K := K) (by omega)
  have m3 := Mulg_ok ab c1 (Cok_self n) hnm (by omega) (show n ≤ 64 by omega) (show n ≤ 64 by omega) (show m ≤ 64 by omega) (K := K) (by omega)
  have m4 := Mulg_ok a1' bc (Cok_self n) hnm (by omega) (show n ≤ 64 by omega) (show n ≤ 64 by omega) (show m ≤ 64 by omega) (K := K) (by omega)
  have m5 := Mulg_ok tb' ta' (Cok_self n) (Cok_self n) (by omega) (show n ≤ 64 by omega) (show n ≤ 64 by omega) (show n ≤ 64 by omega) (K := K) (by omega)
  have d1 := Det_ok ab (by omega) hB (show n ≤ 64 by omega) (K := K) (by omega)
  have d2 := Det_ok a1' (by omega) hB1 (show n ≤ 64 by omega) (K := K) (by omega)
  have d3 := Det_ok b1 (by omega) hB1 (show n ≤ 64 by omega) (K := K) (by omega)
  have db := det_bd ab (by omega)
  have da := det_bd a1' (by omega)
  have dc := det_bd b1 (by omega)
  have t1 := Turn_ok (g := mulM a b n) (Cok_self n) (show n ≤ 64 by omega) (show n ≤ 64 by omega) (K := K) (by omega)
  have t2 := Turn_ok (g := a) (Cok_self n) (show n ≤ 64 by omega) (show n ≤ 64 by omega) (K := K) (by omega)
  have t3 := Turn_ok (g := b) (Cok_self n) (show n ≤ 64 by omega) (show n ≤ 64 by omega) (K := K) (by omega)
  have t4 := Turn_ok (g := c) hnm (show n ≤ 64 by omega) (show m ≤ 64 by omega) (K := K) (by omega)
  have r1 := Rank_ok c1 hnm (by omega) hBm (show n ≤ 64 by omega) (show m ≤ 64 by omega) (K := K) (by omega)
  have r2 := Rank_ok tb hmn (by omega) hB1 (show m ≤ 64 by omega) (show n ≤ 64 by omega) (K := K) (by omega)
  have s1 := SameM (g := mulM (mulM a b n) c n) xb (by omega) (show n ≤ 1000 by omega) (show m ≤ 1000 by omega) (K := K) (by omega)
  have s2 := SameM (g := tr (mulM a b n)) tab (by omega) (show n ≤ 1000 by omega) (show n ≤ 1000 by omega) (K := K) (by omega)
  rw [← mulM_assoc] at m4
  rw [← mulM_tr] at m5
  rw [rank_tr] at r2
  have eq1 := qmul_ok da dc (by omega) (by omega)
  rw [← dt_mul] at eq1
  have eq2 := qsame_ok db db (by omega) (by omega)
  simp only [F_gantrylaw09_MatrixRing, e1, oB, e2, a2' K (by omega), b2 K (by omega), e3, e4, e5, c2 K (by omega), m1, m2, nF (rfl : (0 : Int) = 0), cF0, m3, m4, d1, d2, d3, s1, Bool.not_true, eq1, eq2, decide_true, t1, t2, t3, m5, t4, r1, r2, qT (rfl : (0 : Int) = 0), cT0, s2, qT (rfl : (rank c n m : Int) = (rank c n m : Int)), hlv]
end Go.Proofs.Ytkjnngaceacmdaa
