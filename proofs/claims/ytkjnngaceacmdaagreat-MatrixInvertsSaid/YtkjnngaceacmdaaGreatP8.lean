/- Division and the greatest common divisor, as the reference computes them. -/
import Derived.Test.YtkjnngaceacmdaaGreatP7
set_option linter.unusedVariables false
namespace Go.Proofs.YtkjnngaceacmdaaGreat

theorem rtiny_law {u : List Int} (hu : DOk u) (h : u.length ≤ 2) : F_gantryref04_tiny u = some (vD u) := by
  have h0 := hu 0
  have h1 := hu 1
  have d0 := rdigit_law u 0
  have d1 := rdigit_law u 1
  simp only [Int.natCast_zero, Int.natCast_one] at d0 d1
  have f1 : chk (u.getD 1 0 * 1000000000) = some (u.getD 1 0 * 1000000000) := ckO (by omega)
  have f2 : chk (u.getD 1 0 * 1000000000 + u.getD 0 0) = some (u.getD 1 0 * 1000000000 + u.getD 0 0) := ckO (by omega)
  simp only [F_gantryref04_tiny, d0, d1, f1, f2, oB]
  have : vD u = W u 0 2 := (W_past h).symm
  rw [this, W2, Nat.zero_add]
  congr 1; omega
theorem Zn_d (n : Nat) : (Z (n : Int)).d = digs n := by rw [Z_d]; simp
theorem rtimes_law (n k : Nat) (hk : k ≤ 999999999) (hL : dl n ≤ 40000000000) : Ev (fun K => F_gantryref04_times K (digs n) (k : Int)) (digs (n * k)) := by
  unfold F_gantryref04_times
  have h1 := rnormal_law false (digs_DOk n) (by show dl _ ≤ _; omega)
  rw [digs_v, Int.toNat_natCast, mkG_pos] at h1
  refine Ev.bind h1 (Ev.bind (rOf_law (n := (k : Int)) (by omega)) ?_)
  have hk2 : dl k ≤ 1 := dl_le (by
    have : PB 1 = 1000000000 := by decide
    omega)
  refine Ev.bind (rMul_law (x := (n : Int)) (y := (k : Int)) (by simp; omega)) ?_
  have : (Z ((n : Int) * k)).d = digs (n * k) := by rw [← Int.natCast_mul, Zn_d]
  rw [this]
  exact Ev.pure _
theorem cmp_le (a b : Int) : decide (cmpI a b ≤ 0) = decide (a ≤ b) := by
  unfold cmpI
  by_cases h : a < b
  · rw [if_pos h, dT (by omega), dT (by omega)]
  · rw [if_neg h]
    by_cases h2 : b < a
    · rw [if_pos h2, dF (by omega), dF (by omega)]
    · rw [if_neg h2, dT (by omega), dT (by omega)]
theorem cmp_lt (a b : Int) : decide (cmpI a b < 0) = decide (a < b) := by
  unfold cmpI
  by_cases h : a < b
  · rw [if_pos h, dT (by omega), dT h]
  · rw [if_neg h, dF h]
    by_cases h2 : b < a
    · rw [if_pos h2]; rfl
    · rw [if_neg h2]; rfl
/-- The greatest multiple, found by halving. -/
theorem rdivided_l79 {n R : Nat} (hn : 0 < n) (hL : dl n ≤ 40000000000) (hR : dl R ≤ 90000000000) : ∀ (t lo hi : Nat), hi - lo ≤ t → lo ≤ hi → hi ≤ 999999999 → lo * n ≤ R → R < (hi + 1) * n → Ev2 (fun K k => F_gantryref04_divided_l79 K (digs n) (Z (R : Int)) k (lo : Int) (hi : Int)) ((R / n : Nat) : Int) := by
  intro t
  induction t with
  | zero =>
    intro lo hi ht hle hhi h1 h2
    have : lo = hi := by omega
    subst this
    refine Ev2.of 1 fun K k hk => ?_
    obtain ⟨k', rfl, _⟩ := fuel (n := 0) hk
    have : R / n = lo := Nat.div_eq_of_lt_le h1 h2
    simp only [F_gantryref04_divided_l79, dF (show ¬ (lo : Int) < (lo : Int) by omega), cF0, this]
  | succ t ih =>
    intro lo hi ht hle hhi h1 h2
    by_cases hlt : lo < hi
    · refine Ev2.step ?_
      have e1 : chk ((lo : Int) + (hi : Int)) = some ((lo + hi : Nat) : Int) := ckN (m := 0) (by omega) (by omega)
      have e2 : chk (((lo + hi : Nat) : Int) + 1) = some ((lo + hi + 1 : Nat) : Int) := ckN (m := 0) (by omega) (by omega)
      have e3 : chq ((lo + hi + 1 : Nat) : Int) 2 = some (((lo + hi + 1) / 2 : Nat) : Int) := by rw [chq_ok (by omega) (by omega) (by omega)]; congr 1
      obtain ⟨mid, hm⟩ : ∃ m, (lo + hi + 1) / 2 = m := ⟨_, rfl⟩
      rw [hm] at e3
      have hm1 : lo < mid := by omega
      have hm2 : mid ≤ hi := by omega
      simp only [F_gantryref04_divided_l79, dT (show (lo : Int) < (hi : Int) by omega), cT0, e1, e2, e3, oB]
      refine Ev2.bind (rtimes_law n mid (by omega) hL) ?_
      have hdm : dl (n * mid) ≤ 9000000000000 := by
        have := dl_mul n mid
        have : dl mid ≤ 1 := dl_le (by
          have : PB 1 = 1000000000 := by decide
          omega)
        omega
      rw [Zn_d]
      refine Ev2.bind (rcompared_law (digs_DOk _) (digs_DOk _) (digs_top _) (digs_top _) hdm) ?_
      rw [digs_v, digs_v, cmp_le]
      by_cases hc : n * mid ≤ R
      · have e4 : decide (((n * mid : Nat) : Int) ≤ (R : Int)) = true := dT (by omega)
        simp only [e4, cT0]
        exact ih mid hi (by omega) hm2 hhi (by rw [Nat.mul_comm]; exact hc) h2
      · have e4 : decide (((n * mid : Nat) : Int) ≤ (R : Int)) = false := dF (by omega)
        have e5 : chk ((mid : Int) - 1) = some ((mid - 1 : Nat) : Int) := ckN (m := 0) (by omega) (by omega)
        simp only [e4, cF0, e5, oB]
        refine ih lo (mid - 1) (by omega) (by omega) (by omega) h1 ?_
        rw [show mid - 1 + 1 = mid by omega, Nat.mul_comm]
        omega
    · have : lo = hi := by omega
      subst this
      refine Ev2.of 1 fun K k hk => ?_
      obtain ⟨k', rfl, _⟩ := fuel (n := 0) hk
      have : R / n = lo := Nat.div_eq_of_lt_le h1 h2
      simp only [F_gantryref04_divided_l79, dF (show ¬ (lo : Int) < (lo : Int) by omega), cF0, this]
theorem rdivided_l53 {a : List Int} {n : Nat} (ha : DOk a) (hn : 0 < n) (hL : dl n ≤ 40000000000) (hM : a.length ≤ 40000000000) : ∀ (j : Nat) (q : List Int) (r : Nat), j ≤ a.length → q.length = a.length → Dr q j (a.length - j) → r < n → W a j (a.length - j) = n * W q j (a.length - j) + r →
    ∃ q' r', q'.length = a.length ∧ DOk q' ∧ r' < n ∧ vD a = n * vD q' + (r' : Nat) ∧ Ev2 (fun K k => F_gantryref04_divided_l53 K a (digs n) k q (digs r) ((j : Int) - 1)) (q', digs r')
  | 0, q, r, hj, hq, hD, hr, hI => by
    refine ⟨q, r, hq, Dr.ok (by rw [hq]; simpa using hD), hr, ?_, Ev2.of 1 fun K k hk => ?_⟩
    · simp only [Nat.sub_zero] at hI
      unfold vD
      rw [hq]; exact hI
    · obtain ⟨k', rfl, _⟩ := fuel (n := 0) hk
      simp [F_gantryref04_divided_l53]
  | j + 1, q, r, hj, hq, hD, hr, hI => by
    have ha' := ha j
    have e0 : ((j + 1 : Nat) : Int) - 1 = (j : Int) := by omega
    have e1 : decide (0 ≤ (j : Int)) = true := dT (by omega)
    have e2 := rdL_ok (xs := a) (i := j) (by omega)
    have e3 : chk ((j : Int) - 1) = some ((j : Int) - 1) := ckO (by omega)
    have e4 := rdL_ok (xs := q) (i := j) (by omega)
    have e5 : ∀ v, stL q (j : Int) v = some (q.set j v) := fun v => stL_ok (by omega)
    have hrl : dl r ≤ dl n := dl_mono (by omega)
    have hrl' : (digs r).length = dl r := rfl
    have e6 : apL [a.getD j 0] (digs r) = some (a.getD j 0 :: digs r) := apL_ok (by simp; omega)
    -- the rest with one digit more
    obtain ⟨R, hR⟩ : ∃ R : Nat, (R : Int) = a.getD j 0 + 1000000000 * r := ⟨(a.getD j 0 + 1000000000 * r).toNat, by omega⟩
    have hd : DOk (a.getD j 0 :: digs r) := (digs_DOk r).cons ha'.1 ha'.2
    have hv : vD (a.getD j 0 :: digs r) = R := by
      rw [hR]
      have : vD (a.getD j 0 :: digs r) = a.getD j 0 + 1000000000 * vD (digs r) := W_cons _ _
      rw [this, digs_v]
    have h1 := rnormal_law false hd (by simp; omega)
    rw [hv, Int.toNat_natCast, mkG_pos] at h1
    have hRn : R < 1000000000 * n := by
      have : (R : Int) < 1000000000 * n := by omega
      omega
    have hRl : dl R ≤ dl n + 1 := dl_le (by
      have := dl_lt n
      simp only [PB]
      omega)
    have hq1 : R / n < 1000000000 := Nat.div_lt_of_lt_mul (by rw [Nat.mul_comm]; exact hRn)
    have hnm := Nat.div_add_mod R n
    have hml := Nat.mod_lt R hn
    -- the digit
    have hdig : Ev (fun K => (bif decide (R < n) then F_gantryref04_divided_l79 K (digs n) (Z (R : Int)) K 0 0 else F_gantryref04_divided_l79 K (digs n) (Z (R : Int)) K 0 999999999)) ((R / n : Nat) : Int) := by
      by_cases hlt : R < n
      · rw [dT hlt]; simp only [cT0]
        exact (rdivided_l79 hn hL (by omega) 0 0 0 (by omega) (by omega) (by omega) (by omega) (by omega)).ev
      · rw [dF hlt]; simp only [cF0]
        exact (rdivided_l79 hn hL (by omega) 999999999 0 999999999 (by omega) (by omega) (by omega) (by omega) (by omega)).ev
    have h2 := rtimes_law n (R / n) (by omega) hL
    have hle : n * (R / n) ≤ R := by omega
    obtain ⟨s, s1, s2, s3, s4⟩ := rminus_law (digs_DOk R) (digs_DOk (n * (R / n))) (dl_mono hle) (by rw [digs_v, digs_v]; omega) (by show dl R ≤ _; omega)
    rw [digs_v, digs_v] at s3
    have h3 := rnormal_law false s2 (by rw [s1]; show dl R ≤ _; omega)
    have hs : (vD s).toNat = R % n := by omega
    rw [hs, mkG_pos] at h3
    have es : a.length - j = (a.length - (j + 1)) + 1 := by omega
    obtain ⟨q', r', g1, g2, g3, g4, g5⟩ := rdivided_l53 ha hn hL hM j (q.set j ((R / n : Nat) : Int)) (R % n) (by omega) (by simpa using hq)
      (fun i hi => by
        by_cases e : i = 0
        · subst e; rw [Nat.add_zero, getD_set_eq (by omega)]; exact ⟨Int.natCast_nonneg _, Int.ofNat_lt.2 hq1⟩
        · rw [getD_set_ne (by omega)]
          have := hD (i - 1) (by omega)
          rwa [show j + 1 + (i - 1) = j + i by omega] at this) hml (by
        rw [es, W_head, W_head, getD_set_eq (by omega), W_set (.inl (by omega)), hI]
        have : (R : Int) = n * (R / n : Nat) + (R % n : Nat) := by rw [← Int.natCast_mul, ← Int.natCast_add, hnm]
        grind)
    refine ⟨q', r', g1, g2, g3, g4, Ev2.step ?_⟩
    rw [e0]
    simp only [F_gantryref04_divided_l53, e1, e2, e6, cT0, oB]
    refine Ev2.bind h1 ?_
    rw [Zn_d]
    refine Ev2.bind (rcompared_law (digs_DOk _) (digs_DOk _) (digs_top _) (digs_top _) (by show dl R ≤ _; omega)) ?_
    rw [digs_v, digs_v, cmp_lt]
    have fin : Ev2 (fun K k => F_gantryref04_divided_j80 K (digs n) q (j : Int) (Z (R : Int)) (F_gantryref04_divided_l53 K a (digs n) k) ((R / n : Nat) : Int)) (q', digs r') := by
      simp only [F_gantryref04_divided_j80]
      refine Ev2.bind h2 ?_
      rw [Zn_d]
      refine Ev2.bind s4 (Ev2.bind h3 ?_)
      simp only [e3, e4, e5, oB, Zn_d]
      exact g5
    by_cases hlt : R < n
    · have c1 : decide ((R : Int) < (n : Int)) = true := dT (by omega)
      rw [dT hlt] at hdig
      simp only [cT0] at hdig
      simp only [c1, cT0, F_gantryref04_divided_j73]
      exact Ev2.bind hdig fin
    · have c1 : decide ((R : Int) < (n : Int)) = false := dF (by omega)
      rw [dF hlt] at hdig
      simp only [cF0] at hdig
      simp only [c1, cF0, F_gantryref04_divided_j73]
      exact Ev2.bind hdig fin
theorem rdiv_same1 (K : Nat) (b : List Int) (x : GInt) : ∀ (k : Nat) (lo hi : Int), F_gantryref04_divided_l168 K b x k lo hi = F_gantryref04_divided_l79 K b x k lo hi
  | 0, _, _ => rfl
  | k + 1, lo, hi => by simp only [F_gantryref04_divided_l168, F_gantryref04_divided_l79, rdiv_same1 K b x k]
theorem rdiv_same2 (K : Nat) (a b : List Int) : ∀ (k : Nat) (q r : List Int) (j : Int), F_gantryref04_divided_l142 K a b k q r j = F_gantryref04_divided_l53 K a b k q r j
  | 0, _, _, _ => rfl
  | k + 1, q, r, j => by
    have ih : F_gantryref04_divided_l142 K a b k = F_gantryref04_divided_l53 K a b k := by funext q r j; exact rdiv_same2 K a b k q r j
    simp only [F_gantryref04_divided_l142, F_gantryref04_divided_l53, F_gantryref04_divided_j162, F_gantryref04_divided_j73, F_gantryref04_divided_j169, F_gantryref04_divided_j80, rdiv_same1, ih]
theorem rdivided_law {m n : Nat} (hn : 0 < n) (hL : dl n ≤ 40000000000) (hM : dl m ≤ 40000000000) : ∃ q, q.length ≤ dl m + 2 ∧ DOk q ∧ vD q = (m / n : Nat) ∧ Ev (fun K => F_gantryref04_divided K (digs m) (digs n)) (q, digs (m % n)) := by
  have dm := digs_DOk m; have dn := digs_DOk n
  have vm := digs_v m; have vn := digs_v n
  have lm : (digs m).length = dl m := rfl
  have ln : (digs n).length = dl n := rfl
  obtain ⟨q, r, g1, g2, g3, g4, g5⟩ := rdivided_l53 (a := digs m) dm hn hL (by omega) (digs m).length (List.replicate (digs m).length 0) 0 (Nat.le_refl _) (by simp) (Dr_rep _ _ _) hn (by simp [W])
  rw [vm] at g4
  have hqn := g2.nonneg
  have hmn : m = n * (vD q).toNat + r := by
    have : (m : Int) = ((n * (vD q).toNat + r : Nat) : Int) := by rw [g4, Int.natCast_add, Int.natCast_mul, Int.toNat_of_nonneg hqn]
    omega
  have hq : (vD q).toNat = m / n := by
    rw [hmn, Nat.mul_add_div hn, Nat.div_eq_of_lt g3, Nat.add_zero]
  have hr : r = m % n := by rw [hmn, Nat.mul_add_mod, Nat.mod_eq_of_lt g3]
  subst hr
  rw [digs0] at g5
  have e1 : mkL ((digs m).length : Int) (0 : Int) = some (List.replicate (digs m).length 0) := mkL_ok (by omega)
  have e2 : chk (((digs m).length : Int) - 1) = some (((digs m).length : Int) - 1) := ckO (by omega)
  have core : Ev (fun K => (mkL ((digs m).length : Int) (0 : Int)).bind fun x23 => (chk (((digs m).length : Int) - 1)).bind fun v28 => (F_gantryref04_divided_l53 K (digs m) (digs n) K x23 [] v28).bind fun (x46, x52) => F_gantryref04_divided_j54 K x46 x52) (q, digs (m % n)) := by
    simp only [e1, e2, oB]
    refine Ev.bind g5.ev ?_
    simp only [F_gantryref04_divided_j54]
    exact Ev.pure _
  by_cases h1 : (digs m).length ≤ 2
  · by_cases h2 : (digs n).length ≤ 2
    · have b1 := small_of h1
      have b2 := small_of h2
      have hd := Nat.div_le_self m n
      have hm := Nat.mod_le m n
      refine ⟨digs (m / n), by have := dl_div m n; show dl _ ≤ _; omega, digs_DOk _, digs_v _, ?_⟩
      have c1 : chq (m : Int) (n : Int) = some ((m / n : Nat) : Int) := by rw [chq_ok (by omega) (by omega) (by omega)]; simp
      have c2 : chr (m : Int) (n : Int) = some ((m % n : Nat) : Int) := by rw [chr_ok (by omega) (by omega)]; simp
      unfold F_gantryref04_divided
      simp only [dT (show ((digs m).length : Int) ≤ 2 by omega), dT (show ((digs n).length : Int) ≤ 2 by omega), cT0, rtiny_law dm h1, rtiny_law dn h2, vm, vn, c1, c2, oB]
      refine Ev.bind (rOf_law (by omega)) (Ev.bind (rOf_law (by omega)) ?_)
      rw [Zn_d, Zn_d]
      exact Ev.pure _
    · refine ⟨q, by omega, g2, by omega, ?_⟩
      unfold F_gantryref04_divided
      simp only [dT (show ((digs m).length : Int) ≤ 2 by omega), dF (show ¬ ((digs n).length : Int) ≤ 2 by omega), cT0, cF0]
      exact core
  · refine ⟨q, by omega, g2, by omega, ?_⟩
    unfold F_gantryref04_divided
    simp only [dF (show ¬ ((digs m).length : Int) ≤ 2 by omega), cF0, rdiv_same2]
    exact core
/-- What makes a quotient and a rest. -/
theorem quo_of {x y a b : Int} (hy : y ≠ 0) (h1 : x = y * a + b) (h2 : 0 ≤ b) (h3 : b < y.natAbs) : x / y = a ∧ x % y = b := by
  have hm : x % y = b := by
    rw [h1, Int.add_comm, Int.add_mul_emod_self_left]
    by_cases hy0 : y < 0
    · have : b % y = b % -y := by rw [Int.emod_neg]
      rw [this, Int.emod_eq_of_lt h2 (by omega)]
    · exact Int.emod_eq_of_lt h2 (by omega)
  refine ⟨?_, hm⟩
  have h4 := Int.mul_ediv_add_emod x y
  exact Int.eq_of_mul_eq_mul_left hy (by omega)
theorem rDiv_law {x y : Int} (hy : y ≠ 0) (hx : dl x.natAbs ≤ 30000000000) (hy2 : dl y.natAbs ≤ 30000000000) : Ev (fun K => F_gantryref04_Div K (Z x) (Z y)) (Z (x / y), Z (x % y)) := by
  have e1 : (((digs y.natAbs).length : Int) == 0) = false := qF (by
    show (dl y.natAbs : Int) ≠ 0
    have : dl y.natAbs ≠ 0 := by rw [Ne, dl_eq0]; omega
    omega)
  obtain ⟨q, q1, q2, q3, q4⟩ := rdivided_law (m := x.natAbs) (n := y.natAbs) (by omega) (by omega) (by omega)
  have hdm := dl_div x.natAbs y.natAbs
  have hmm := dl_mod x.natAbs y.natAbs
  have hnd := Nat.div_add_mod x.natAbs y.natAbs
  have hml := Nat.mod_lt x.natAbs (show 0 < y.natAbs by omega)
  have hln : (digs (x.natAbs % y.natAbs)).length = dl (x.natAbs % y.natAbs) := rfl
  have o1 := rnormal_law (decide (x < 0) != decide (y < 0)) q2 (by omega)
  have o2 := rnormal_law false (digs_DOk (x.natAbs % y.natAbs)) (by omega)
  rw [q3, Int.toNat_natCast, mkG_dec] at o1
  rw [digs_v, Int.toNat_natCast, mkG_pos] at o2
  unfold F_gantryref04_Div
  simp only [Z_d, Z_neg, e1, cF0]
  refine Ev.bind q4 (Ev.bind o1 (Ev.bind o2 ?_))
  have c1 : (x.natAbs : Int) = (y.natAbs : Int) * ((x.natAbs / y.natAbs : Nat) : Int) + ((x.natAbs % y.natAbs : Nat) : Int) := by
    rw [← Int.natCast_mul, ← Int.natCast_add, hnd]
  generalize x.natAbs / y.natAbs = Q at *
  generalize x.natAbs % y.natAbs = R at *
  by_cases hx0 : x < 0
  · have e2 : decide (x < 0) = true := dT hx0
    by_cases hR : R = 0
    · subst hR
      have e3 : decide (0 < ((Z ((0 : Nat) : Int)).d.length : Int)) = false := by rw [Z_d, show ((0 : Nat) : Int).natAbs = 0 from rfl, digs0]; rfl
      simp only [e2, e3, cT0, cF0]
      by_cases hy0 : y < 0
      · rw [dT hy0]
        rw [show (y.natAbs : Int) = -y by omega, show (x.natAbs : Int) = -x by omega, Int.neg_mul] at c1
        obtain ⟨u1, u2⟩ := quo_of (x := x) (y := y) (a := Q) (b := 0) hy (by omega) (by omega) (by omega)
        rw [u1, u2]
        exact Ev.pure _
      · rw [dF hy0]
        rw [show (y.natAbs : Int) = y by omega, show (x.natAbs : Int) = -x by omega] at c1
        obtain ⟨u1, u2⟩ := quo_of (x := x) (y := y) (a := -Q) (b := 0) hy (by rw [Int.mul_neg]; omega) (by omega) (by omega)
        rw [u1, u2]
        exact Ev.pure _
    · have hrl : dl R ≠ 0 := by rw [Ne, dl_eq0]; exact hR
      have e3 : decide (0 < ((Z (R : Int)).d.length : Int)) = true := dT (by rw [Z_len]; simp only [Int.natAbs_natCast]; omega)
      simp only [e2, e3, cT0]
      have o3 := rnormal_law (true != decide (y < 0)) (u := [1]) (DOk.nil.cons (by omega) (by omega)) (by simp)
      rw [vD1, show (1 : Int).toNat = 1 from rfl, mkG_dec] at o3
      obtain ⟨s, s1, s2, s3, s4⟩ := rminus_law (digs_DOk y.natAbs) (digs_DOk R) (dl_mono (by omega)) (by rw [digs_v, digs_v]; omega) (by show dl _ ≤ _; omega)
      rw [digs_v, digs_v] at s3
      have o4 := rnormal_law false s2 (by rw [s1]; show dl _ ≤ _; omega)
      rw [s3, mkG_pos] at o4
      refine Ev.bind o3 ?_
      have hsz : ∀ b : Bool, dl (if b = true then -(Q : Int) else (Q : Int)).natAbs ≤ 40000000000 := fun b => by
        cases b <;> simp <;> omega
      have hsz1 : ∀ b : Bool, dl (if b = true then -((1 : Nat) : Int) else ((1 : Nat) : Int)).natAbs ≤ 40000000000 := fun b => by
        have : dl 1 ≤ 1 := dl_le (by decide)
        cases b <;> simp <;> omega
      refine Ev.bind (rAdd_law (hsz _) (hsz1 _)) ?_
      rw [Zn_d]
      refine Ev.bind s4 (Ev.bind o4 ?_)
      by_cases hy0 : y < 0
      · rw [dT hy0]
        rw [show (y.natAbs : Int) = -y by omega, show (x.natAbs : Int) = -x by omega, Int.neg_mul] at c1
        obtain ⟨u1, u2⟩ := quo_of (x := x) (y := y) (a := Q + 1) (b := y.natAbs - R) hy (by rw [Int.mul_add]; omega) (by omega) (by omega)
        rw [u1, u2]
        have : (((y.natAbs : Int) - R).toNat : Int) = y.natAbs - R := by omega
        rw [this]
        exact Ev.pure _
      · rw [dF hy0]
        rw [show (y.natAbs : Int) = y by omega, show (x.natAbs : Int) = -x by omega] at c1
        obtain ⟨u1, u2⟩ := quo_of (x := x) (y := y) (a := -(Q + 1)) (b := y.natAbs - R) hy (by rw [Int.mul_neg, Int.mul_add]; omega) (by omega) (by omega)
        rw [u1, u2]
        have : (((y.natAbs : Int) - R).toNat : Int) = y.natAbs - R := by omega
        rw [this, Int.neg_add]
        exact Ev.pure _
  · have e2 : decide (x < 0) = false := dF hx0
    simp only [e2, cF0]
    by_cases hy0 : y < 0
    · rw [dT hy0]
      rw [show (y.natAbs : Int) = -y by omega, show (x.natAbs : Int) = x by omega, Int.neg_mul] at c1
      obtain ⟨u1, u2⟩ := quo_of (x := x) (y := y) (a := -Q) (b := R) hy (by rw [Int.mul_neg]; omega) (by omega) (by omega)
      rw [u1, u2]
      exact Ev.pure _
    · rw [dF hy0]
      rw [show (y.natAbs : Int) = y by omega, show (x.natAbs : Int) = x by omega] at c1
      obtain ⟨u1, u2⟩ := quo_of (x := x) (y := y) (a := Q) (b := R) hy (by omega) (by omega) (by omega)
      rw [u1, u2]
      exact Ev.pure _
theorem rGcd_l29 (K : Nat) : ∀ (n m k : Nat), n < k → F_gantryref04_Gcd_l29 K k (m : Int) (n : Int) = some ((Nat.gcd m n : Nat) : Int) := by
  intro n
  induction n using Nat.strongRecOn with
  | _ n ih =>
    intro m k hk
    obtain ⟨k', rfl, _⟩ := fuel hk
    by_cases h : n = 0
    · subst h
      simp [F_gantryref04_Gcd_l29]
    · have e1 : decide (0 < (n : Int)) = true := dT (by omega)
      have e2 : chr (m : Int) (n : Int) = some ((m % n : Nat) : Int) := by rw [chr_ok (by omega) (by omega)]; simp
      simp only [F_gantryref04_Gcd_l29, e1, cT0, e2, oB]
      have hlt := Nat.mod_lt m (show 0 < n by omega)
      rw [ih (m % n) hlt n k' (by omega)]
      congr 2
      rw [Nat.gcd_comm m n, Nat.gcd_rec n m, Nat.gcd_comm]
theorem rGcd_l15 : ∀ (n m : Nat), dl m ≤ 30000000000 → dl n ≤ 30000000000 → ∃ r, Ev2 (fun K k => F_gantryref04_Gcd_l15 K k (Z (n : Int)) (Z (m : Int))) r ∧ (r = .ret (Z (Nat.gcd m n : Nat)) ∨ r = .go (Z (Nat.gcd m n : Nat))) := by
  intro n
  induction n using Nat.strongRecOn with
  | _ n ih =>
    intro m hm hn
    by_cases h : n = 0
    · subst h
      refine ⟨.go (Z m), Ev2.of 1 fun K k hk => ?_, .inr (by simp)⟩
      obtain ⟨k', rfl, _⟩ := fuel (n := 0) hk
      have e : decide (0 < ((Z ((0 : Nat) : Int)).d.length : Int)) = false := by rw [Z_len, show ((0 : Nat) : Int).natAbs = 0 from rfl, dl_zero]; rfl
      simp only [F_gantryref04_Gcd_l15, e, cF0]
    · have e1 : decide (0 < ((digs n).length : Int)) = true := dT (by
        show (0 : Int) < dl n
        have hl : dl n ≠ 0 := by rw [Ne, dl_eq0]; exact h
        omega)
      have hlt := Nat.mod_lt m (show 0 < n by omega)
      obtain ⟨r, h1, h2⟩ := ih (m % n) hlt n hn (Nat.le_trans (dl_mod _ _) hm)
      have hg : Nat.gcd n (m % n) = Nat.gcd m n := by rw [Nat.gcd_comm m n, Nat.gcd_rec n m, Nat.gcd_comm]
      rw [hg] at h2
      have hdiv := rDiv_law (x := (m : Int)) (y := (n : Int)) (by omega) (by simpa using hm) (by simpa using hn)
      rw [← Int.natCast_emod] at hdiv
      by_cases hs : dl m ≤ 2 ∧ dl n ≤ 2
      · refine ⟨.ret (Z (Nat.gcd m n : Nat)), Ev2.step ?_, .inl rfl⟩
        have b1 := small_of (n := m) hs.1
        have b2 := small_of (n := n) hs.2
        have hgl : Nat.gcd m n ≤ n := Nat.gcd_le_right m (by omega)
        have f1 : decide (((digs m).length : Int) ≤ 2) = true := dT (by have : (digs m).length = dl m := rfl; omega)
        have f2 : decide (((digs n).length : Int) ≤ 2) = true := dT (by have : (digs n).length = dl n := rfl; omega)
        simp only [F_gantryref04_Gcd_l15, e1, f1, f2, cT0, Zn_d, rtiny_law (digs_DOk m) hs.1, rtiny_law (digs_DOk n) hs.2, digs_v, oB]
        refine Ev2.bind (x := ((Nat.gcd m n : Nat) : Int)) (f := fun K => F_gantryref04_Gcd_l29 K K (m : Int) (n : Int)) ⟨n + 1, fun K hK => rGcd_l29 K n m K (by omega)⟩ ?_
        simp only [F_gantryref04_Gcd_j30]
        exact Ev2.bind (rOf_law (by omega)) (Ev2.of 0 fun _ _ _ => rfl)
      · refine ⟨r, Ev2.step ?_, h2⟩
        simp only [F_gantryref04_Gcd_l15, e1, cT0, Zn_d]
        by_cases hs1 : dl m ≤ 2
        · have f1 : decide (((digs m).length : Int) ≤ 2) = true := dT (by have : (digs m).length = dl m := rfl; omega)
          have f2 : decide (((digs n).length : Int) ≤ 2) = false := dF (by have : (digs n).length = dl n := rfl; omega)
          simp only [f1, f2, cT0, cF0]
          exact Ev2.bind hdiv h1
        · have f1 : decide (((digs m).length : Int) ≤ 2) = false := dF (by have : (digs m).length = dl m := rfl; omega)
          simp only [f1, cF0]
          exact Ev2.bind hdiv h1
theorem rGcd_law {x y : Int} (hx : dl x.natAbs ≤ 30000000000) (hy : dl y.natAbs ≤ 30000000000) : Ev (fun K => F_gantryref04_Gcd K (Z x) (Z y)) (Z (Int.gcd x y : Nat)) := by
  unfold F_gantryref04_Gcd
  have h1 := rnormal_law false (digs_DOk x.natAbs) (by show dl _ ≤ _; omega)
  have h2 := rnormal_law false (digs_DOk y.natAbs) (by show dl _ ≤ _; omega)
  rw [digs_v, mkG_pos, Int.toNat_natCast] at h1 h2
  simp only [Z_d]
  refine Ev.bind h1 (Ev.bind h2 ?_)
  obtain ⟨r, h3, h4⟩ := rGcd_l15 y.natAbs x.natAbs hx hy
  refine Ev.bind h3.ev ?_
  rcases h4 with rfl | rfl
  · exact Ev.pure _
  · exact Ev.pure _
theorem rCompare_law {x y : Int} (hx : dl x.natAbs ≤ 40000000000) (hy : dl y.natAbs ≤ 40000000000) : Ev (fun K => F_gantryref04_Compare K (Z x) (Z y)) (cmpI x y) := by
  have dx := digs_DOk x.natAbs; have dy := digs_DOk y.natAbs
  have tx := digs_top x.natAbs; have ty := digs_top y.natAbs
  have lx : (digs x.natAbs).length = dl x.natAbs := rfl
  have ly : (digs y.natAbs).length = dl y.natAbs := rfl
  unfold F_gantryref04_Compare
  simp only [Z_d, Z_neg]
  by_cases h1 : x < 0
  · by_cases h2 : y < 0
    · simp only [dT h1, dT h2, bne_self_eq_false, cF0, cT0]
      have h := rcompared_law dy dx ty tx (by omega)
      rw [digs_v, digs_v] at h
      have e : cmpI (y.natAbs : Int) (x.natAbs : Int) = cmpI x y := by
        unfold cmpI
        by_cases a : x < y
        · rw [if_pos a, if_pos (by omega)]
        · rw [if_neg a, if_neg (by omega)]
          by_cases b : y < x
          · rw [if_pos b, if_pos (by omega)]
          · rw [if_neg b, if_neg (by omega)]
      rw [e] at h
      exact Ev.bind h (Ev.pure _)
    · have e : (decide (x < 0) != decide (y < 0)) = true := by rw [dT h1, dF h2]; rfl
      simp only [e, cT0]
      simp only [dT h1, cT0]
      unfold cmpI
      rw [if_pos (by omega)]
      exact Ev.pure _
  · by_cases h2 : y < 0
    · have e : (decide (x < 0) != decide (y < 0)) = true := by rw [dF h1, dT h2]; rfl
      simp only [e, cT0]
      simp only [dF h1, cF0]
      unfold cmpI
      rw [if_neg (by omega), if_pos (by omega)]
      exact Ev.pure _
    · simp only [dF h1, dF h2, bne_self_eq_false, cF0]
      have h := rcompared_law dx dy tx ty (by omega)
      rw [digs_v, digs_v, show (x.natAbs : Int) = x by omega, show (y.natAbs : Int) = y by omega] at h
      exact Ev.bind h (Ev.pure _)
theorem rSign_law {x : Int} (hx : dl x.natAbs ≤ 40000000000) : Ev (fun K => F_gantryref04_Sign K (Z x)) x.sign := by
  unfold F_gantryref04_Sign
  have h := rCompare_law (x := x) (y := 0) hx (by rw [show Int.natAbs 0 = 0 from rfl, dl_zero]; omega)
  have e : Z 0 = (⟨false, []⟩ : GInt) := by rw [show (0 : Int) = ((0 : Nat) : Int) from rfl, ← mkG_pos]; rfl
  rw [e] at h
  have e2 : cmpI x 0 = x.sign := by
    unfold cmpI
    by_cases a : x < 0
    · rw [if_pos a, Int.sign_eq_neg_one_of_neg a]
    · rw [if_neg a]
      by_cases b : 0 < x
      · rw [if_pos b, Int.sign_eq_one_of_pos b]
      · have : x = 0 := by omega
        subst this; rfl
  rw [e2] at h
  exact Ev.bind h (Ev.pure _)
theorem rSame_l7 (x y : GInt) (hl : x.d.length = y.d.length) (hL : x.d.length ≤ 9000000000000) : ∀ (t i : Nat), i + t = x.d.length → ∀ K k, t < k → F_gantryref04_Same_l7 K x y k (i : Int) = some (if x.d.drop i = y.d.drop i then .go () else .ret false)
  | 0, i, hi, K, k, hk => by
    obtain ⟨k', rfl, _⟩ := fuel hk
    have : i = x.d.length := by omega
    subst this
    simp only [F_gantryref04_Same_l7, dF (show ¬ (x.d.length : Int) < (x.d.length : Int) by omega), cF0]
    rw [if_pos]
    rw [List.drop_of_length_le (Nat.le_refl _), List.drop_of_length_le (by omega)]
  | t + 1, i, hi, K, k, hk => by
    obtain ⟨k', rfl, _⟩ := fuel hk
    have e1 : decide ((i : Int) < (x.d.length : Int)) = true := dT (by omega)
    have e2 := rdL_ok (xs := x.d) (i := i) (by omega)
    have e3 := rdL_ok (xs := y.d) (i := i) (by omega)
    have e5 : chk ((i : Int) + 1) = some ((i + 1 : Nat) : Int) := ckN (m := 0) (by omega) (by omega)
    have dx : x.d.drop i = x.d.getD i 0 :: x.d.drop (i + 1) := by
      rw [List.drop_eq_getElem_cons (by omega)]; simp [List.getD_eq_getElem?_getD, show i < x.d.length by omega]
    have dy : y.d.drop i = y.d.getD i 0 :: y.d.drop (i + 1) := by
      rw [List.drop_eq_getElem_cons (by omega)]; simp [List.getD_eq_getElem?_getD, show i < y.d.length by omega]
    by_cases h : x.d.getD i 0 = y.d.getD i 0
    · have ih := rSame_l7 x y hl hL t (i + 1) (by omega) K k' (by omega)
      simp only [F_gantryref04_Same_l7, e1, e2, e3, e5, nF h, cT0, cF0, oB, ih]
      by_cases hd : x.d.drop (i + 1) = y.d.drop (i + 1)
      · rw [if_pos hd, if_pos (by rw [dx, dy, h, hd])]
      · rw [if_neg hd, if_neg (by rw [dx, dy]; intro e; exact hd (List.cons.inj e).2)]
    · simp only [F_gantryref04_Same_l7, e1, e2, e3, nT h, cT0, oB]
      rw [if_neg (by rw [dx, dy]; intro e; exact h (List.cons.inj e).1)]
theorem rSame_law (x y : GInt) (hL : x.d.length ≤ 9000000000000) : Ev (fun K => F_gantryref04_Same K x y) (decide (x = y)) := by
  refine ⟨x.d.length + 1, fun K hK => ?_⟩
  unfold F_gantryref04_Same
  by_cases h1 : x.neg = y.neg
  · have e1 : (x.neg != y.neg) = false := by rw [h1]; exact bne_self_eq_false _
    by_cases h2 : x.d.length = y.d.length
    · have e2 : ((x.d.length : Int) != (y.d.length : Int)) = false := nF (by omega)
      have h := rSame_l7 x y h2 hL x.d.length 0 (by omega) K K (by omega)
      simp only [Int.natCast_zero, List.drop_zero] at h
      simp only [e1, e2, cF0, h, oB]
      by_cases h3 : x.d = y.d
      · rw [if_pos h3, dT (by cases x; cases y; simp_all)]; rfl
      · rw [if_neg h3, dF (by intro e; subst e; exact h3 rfl)]
    · have e2 : ((x.d.length : Int) != (y.d.length : Int)) = true := nT (by omega)
      simp only [e1, e2, cF0, cT0]
      rw [dF (by intro e; subst e; exact h2 rfl)]
  · have e1 : (x.neg != y.neg) = true := bne_iff_ne.2 h1
    simp only [e1, cT0]
    rw [dF (by intro e; subst e; exact h1 rfl)]
end Go.Proofs.YtkjnngaceacmdaaGreat
