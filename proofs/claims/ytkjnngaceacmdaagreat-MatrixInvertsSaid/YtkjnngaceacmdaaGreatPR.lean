/- What the packages of rational numbers compute, the program's and the reference's. -/
import Derived.Test.YtkjnngaceacmdaaGreatRZ
set_option linter.unusedVariables false
namespace Go.Proofs.YtkjnngaceacmdaaGreat
open Rat

theorem Z0 : Z 0 = (⟨false, []⟩ : GInt) := by rw [show (0 : Int) = ((0 : Nat) : Int) from rfl, ← mkG_pos]; rfl
theorem Z_inj {x y : Int} (h : Z x = Z y) : x = y := by
  have h1 : decide (x < 0) = decide (y < 0) := congrArg GInt.neg h
  have h2 : digs x.natAbs = digs y.natAbs := congrArg GInt.d h
  have h3 : (x.natAbs : Int) = y.natAbs := by rw [← digs_v, ← digs_v, h2]
  have h4 : (x < 0) ↔ (y < 0) := by simpa using h1
  omega
theorem len0 {x : Int} : (((Z x).d.length : Int) == 0) = decide (x = 0) := by
  rw [Z_len]
  by_cases h : x = 0
  · rw [dT h]; subst h; rw [show Int.natAbs 0 = 0 from rfl, dl_zero]; rfl
  · have : dl x.natAbs ≠ 0 := by rw [Ne, dl_eq0]; omega
    rw [dF h, qF (by omega)]
theorem dl1 : dl 1 = 1 := by
  unfold dl; rw [digs1 (by decide) (by decide)]; rfl
theorem unit_law (x : Int) : F_rat_unit (Z x) = some (decide (x = 1)) := by
  unfold F_rat_unit
  rw [Z_neg]
  by_cases h : x < 0
  · rw [dT h, dF (p := x = 1) (by omega)]; simp
  · rw [dF h]
    simp only [Bool.not_false, cT0, Z_d]
    by_cases h1 : (digs x.natAbs).length = 1
    · obtain ⟨a1, a2⟩ := digs_one h1
      have e := rdL_ok (xs := digs x.natAbs) (i := 0) (by omega)
      rw [a1] at e
      simp only [Int.natCast_zero] at e
      rw [qT (by omega), cT0, e, oB]
      by_cases h2 : x = 1
      · rw [dT h2, qT (by omega)]
      · rw [dF h2, qF (by omega)]
    · rw [qF (by omega), cF0, dF]
      intro e; subst e; exact h1 dl1
theorem rone_law (x : Int) : F_gantryref05_one (Z x) = some (decide (x = 1)) := by
  unfold F_gantryref05_one
  rw [Z_neg]
  by_cases h : x < 0
  · rw [dT h, dF (p := x = 1) (by omega)]; rfl
  · rw [dF h]
    simp only [cF0, Z_d]
    by_cases h1 : (digs x.natAbs).length = 1
    · obtain ⟨a1, a2⟩ := digs_one h1
      have e := rdL_ok (xs := digs x.natAbs) (i := 0) (by omega)
      rw [a1] at e
      simp only [Int.natCast_zero] at e
      rw [nF (by omega), cF0, e, oB]
      by_cases h2 : x = 1
      · rw [dT h2, qT (by omega)]
      · rw [dF h2, qF (by omega)]
    · rw [nT (by omega), cT0, dF]
      intro e; subst e; exact h1 dl1
/-- A number in lowest terms. -/
theorem low_is {p q : Int} (hq : 0 < q) (hg : Int.gcd p q = 1) : (p /. q).num = p ∧ (p /. q).den = q.natAbs := by
  rw [Rat.num_divInt, Rat.den_divInt, Int.gcd_comm, hg, if_neg (by omega), Int.sign_eq_one_of_pos hq]
  simp
theorem Qr_low {p q : Int} (hq : 0 < q) (hg : Int.gcd p q = 1) : Qr (p /. q) = ⟨Z p, if q = 1 then ⟨false, []⟩ else Z q⟩ := by
  obtain ⟨h1, h2⟩ := low_is hq hg
  rw [Qr_def, h1, h2]
  by_cases h : q = 1
  · rw [if_pos h, if_pos (by omega)]
  · rw [if_neg h, if_neg (by omega), show (q.natAbs : Int) = q by omega]
theorem lowest_law {p q : Int} (hq : q ≠ 0) (hg : Int.gcd p q = 1) : F_rat_lowest (Z p) (Z q) = some (Qr (p /. q)) := by
  unfold F_rat_lowest
  rw [Z_neg]
  by_cases h : q < 0
  · rw [dT h]
    simp only [cT0, Neg_law, oB, unit_law]
    rw [← Rat.neg_divInt_neg, Qr_low (by omega) (by simpa using hg)]
    by_cases h1 : -q = 1
    · rw [dT h1, if_pos h1]; rfl
    · rw [dF h1, if_neg h1]; rfl
  · rw [dF h]
    simp only [cF0, unit_law, oB]
    rw [Qr_low (by omega) hg]
    by_cases h1 : q = 1
    · rw [dT h1, if_pos h1]; rfl
    · rw [dF h1, if_neg h1]; rfl
theorem gcd_parts {p q : Int} (hq : q ≠ 0) : ∃ a b : Int, ∃ g : Nat, Int.gcd p q = g ∧ 0 < g ∧ p = a * g ∧ q = b * g ∧ Int.gcd a b = 1 ∧ b ≠ 0 ∧ p / (g : Int) = a ∧ q / (g : Int) = b := by
  have hg : 0 < Int.gcd p q := Int.gcd_pos_of_ne_zero_right p hq
  obtain ⟨a, ha⟩ := Int.gcd_dvd_left (a := p) (b := q)
  obtain ⟨b, hb⟩ := Int.gcd_dvd_right (a := p) (b := q)
  have hgz : ((Int.gcd p q : Nat) : Int) ≠ 0 := by omega
  have q1 : p / ((Int.gcd p q : Nat) : Int) = a := by
    have : ((Int.gcd p q : Nat) : Int) * a / ((Int.gcd p q : Nat) : Int) = a := Int.mul_ediv_cancel_left _ hgz
    rwa [← ha] at this
  have q2 : q / ((Int.gcd p q : Nat) : Int) = b := by
    have : ((Int.gcd p q : Nat) : Int) * b / ((Int.gcd p q : Nat) : Int) = b := Int.mul_ediv_cancel_left _ hgz
    rwa [← hb] at this
  refine ⟨a, b, Int.gcd p q, rfl, hg, by rw [Int.mul_comm]; exact ha, by rw [Int.mul_comm]; exact hb, ?_, ?_, q1, q2⟩
  · have h := Int.gcd_mul_left (Int.gcd p q) a b
    rw [← ha, ← hb] at h
    simp only [Int.natAbs_natCast] at h
    have : Int.gcd p q * 1 = Int.gcd p q * Int.gcd a b := by omega
    exact (Nat.eq_of_mul_eq_mul_left hg this).symm
  · intro e; rw [e] at hb; simp at hb; exact hq hb
theorem Qr_zero : Qr 0 = ⟨⟨false, []⟩, ⟨false, []⟩⟩ := Qr0
theorem dl_gcd {p q : Int} (hq : q ≠ 0) : dl (Int.gcd p q) ≤ dl q.natAbs := dl_mono (Nat.le_of_dvd (by omega) (Nat.gcd_dvd_right _ _))
theorem Make_law {p q : Int} (hq : q ≠ 0) (hp1 : dl p.natAbs ≤ 20000000000) (hq1 : dl q.natAbs ≤ 20000000000) : Ev (fun K => F_rat_Make K (Z p) (Z q)) (Qr (p /. q)) := by
  unfold F_rat_Make
  simp only [len0, dF hq, cF0]
  by_cases hp : p = 0
  · subst hp
    simp only [Rat.zero_divInt, Qr_zero]
    exact Ev.pure _
  · simp only [dF hp, cF0]
    obtain ⟨a, b, g, h1, h2, h3, h4, h5, h6, h7, h8⟩ := gcd_parts (p := p) hq
    have hgl := dl_gcd (p := p) hq
    rw [h1] at hgl
    refine Ev.bind (Gcd_law (by omega) (by omega)) ?_
    rw [h1]
    simp only [unit_law, oB]
    have he : p /. q = a /. b := by
      rw [h3, h4]
      exact Rat.divInt_mul_right (by omega)
    by_cases hg : g = 1
    · have e : (!decide ((g : Int) = 1)) = false := by rw [dT (by omega)]; rfl
      simp only [e, cF0]
      rw [lowest_law hq (by rw [h1]; exact hg)]
      exact Ev.pure _
    · have e : (!decide ((g : Int) = 1)) = true := by rw [dF (by omega)]; rfl
      simp only [e, cT0]
      refine Ev.bind (Div_law (by omega) (by omega) (by simp; omega)) (Ev.bind (Div_law (by omega) (by omega) (by simp; omega)) ?_)
      simp only [h7, h8]
      rw [lowest_law h6 h5, he]
      exact Ev.pure _
theorem Make_zero (p : Int) : Ev (fun K => F_rat_Make K (Z p) (Z 0)) (Qr 0) := by
  unfold F_rat_Make
  simp only [len0, Qr_zero]
  exact Ev.pure _
theorem rMake_law {p q : Int} (hq : q ≠ 0) (hp1 : dl p.natAbs ≤ 20000000000) (hq1 : dl q.natAbs ≤ 20000000000) : Ev (fun K => F_gantryref05_Make K (Z p) (Z q)) (Qr (p /. q)) := by
  unfold F_gantryref05_Make
  simp only [len0, dF hq, cF0]
  by_cases hp : p = 0
  · subst hp
    simp only [Rat.zero_divInt, Qr_zero]
    exact Ev.pure _
  · simp only [dF hp, cF0]
    obtain ⟨a, b, g, h1, h2, h3, h4, h5, h6, h7, h8⟩ := gcd_parts (p := p) hq
    have hgl := dl_gcd (p := p) hq
    rw [h1] at hgl
    have hal : dl a.natAbs ≤ dl p.natAbs := dl_mono (by
      rw [h3, Int.natAbs_mul, Int.natAbs_natCast]
      exact Nat.le_mul_of_pos_right _ h2)
    have hbl : dl b.natAbs ≤ dl q.natAbs := dl_mono (by
      rw [h4, Int.natAbs_mul, Int.natAbs_natCast]
      exact Nat.le_mul_of_pos_right _ h2)
    refine Ev.bind (rGcd_law (by omega) (by omega)) ?_
    rw [h1]
    have he : p /. q = a /. b := by
      rw [h3, h4]
      exact Rat.divInt_mul_right (by omega)
    refine Ev.bind (rDiv_law (by omega) (by omega) (by simp; omega)) (Ev.bind (rDiv_law (by omega) (by omega) (by simp; omega)) ?_)
    simp only [h7, h8, Z_neg]
    rw [he]
    by_cases hb : b < 0
    · simp only [dT hb, cT0]
      refine Ev.bind (rNeg_law a (by omega)) (Ev.bind (rNeg_law b (by omega)) ?_)
      simp only [rone_law, oB]
      rw [← Rat.neg_divInt_neg, Qr_low (by omega) (by simpa using h5)]
      by_cases h9 : -b = 1
      · simp only [dT h9, if_pos h9, cT0]; exact Ev.pure _
      · simp only [dF h9, if_neg h9, cF0]; exact Ev.pure _
    · simp only [dF hb, cF0, rone_law, oB]
      rw [Qr_low (by omega) h5]
      by_cases h9 : b = 1
      · simp only [dT h9, if_pos h9, cT0]; exact Ev.pure _
      · simp only [dF h9, if_neg h9, cF0]; exact Ev.pure _
theorem rMake_zero (p : Int) : Ev (fun K => F_gantryref05_Make K (Z p) (Z 0)) (Qr 0) := by
  unfold F_gantryref05_Make
  simp only [len0, Qr_zero]
  exact Ev.pure _
theorem Qp (a : Rat) : (Qr a).p = Z a.num := by rw [Qr_def]
theorem Qq (a : Rat) : (Qr a).q = if a.den = 1 then ⟨false, []⟩ else Z a.den := by rw [Qr_def]
theorem Qq_len (a : Rat) : (((Qr a).q.d.length : Int) == 0) = decide (a.den = 1) := by
  rw [Qq]
  by_cases h : a.den = 1
  · rw [if_pos h, dT h]; rfl
  · rw [if_neg h, dF h, len0, dF]
    have := a.den_nz
    omega
theorem Qr_inj {a b : Rat} (h : Qr a = Qr b) : a = b := by
  have h1 : Z a.num = Z b.num := by rw [← Qp, ← Qp, h]
  have h2 := congrArg GRat.q h
  rw [Qq, Qq] at h2
  have h3 := Z_inj h1
  have h4 : a.den = b.den := by
    by_cases ha : a.den = 1
    · by_cases hb : b.den = 1
      · omega
      · rw [if_pos ha, if_neg hb, ← Z0] at h2
        have := Z_inj h2
        have := b.den_nz
        omega
    · by_cases hb : b.den = 1
      · rw [if_neg ha, if_pos hb, ← Z0] at h2
        have := Z_inj h2
        have := a.den_nz
        omega
      · rw [if_neg ha, if_neg hb] at h2
        have := Z_inj h2
        omega
  exact Rat.ext h3 h4
theorem Den_law (a : Rat) : F_rat_Den (Qr a) = some (Z a.den) := by
  unfold F_rat_Den F_rat_one
  rw [Qq_len]
  by_cases h : a.den = 1
  · rw [dT h, cT0, Of_law (by omega), oB, oB, h]; rfl
  · rw [dF h, cF0, Qq, if_neg h]
theorem rDen_law (a : Rat) : Ev (fun K => F_gantryref05_Den K (Qr a)) (Z a.den) := by
  unfold F_gantryref05_Den
  rw [Qq_len]
  by_cases h : a.den = 1
  · simp only [dT h, cT0]
    rw [h]
    exact Ev.bind (rOf_law (by omega)) (Ev.pure _)
  · simp only [dF h, cF0]
    rw [Qq, if_neg h]
    exact Ev.pure _
theorem qs_dl {a : Rat} (h : qs a = true) : dl a.num.natAbs ≤ 40000000 ∧ dl a.den ≤ 40000000 := by
  unfold qs at h
  simp only [Bool.and_eq_true, Nat.ble_eq] at h
  have h1 := dl_log a.num.natAbs
  have h2 := dl_log a.den
  omega
theorem Add_is (a b : Rat) : a + b = (a.num * b.den + b.num * a.den) /. (a.den * b.den) := by
  have ha := a.den_nz
  have hb := b.den_nz
  conv => lhs; rw [← Rat.num_divInt_den a, ← Rat.num_divInt_den b]
  exact Rat.divInt_add_divInt _ _ (by omega) (by omega)
theorem Mul_is (a b : Rat) : a * b = (a.num * b.num) /. (a.den * b.den) := by
  conv => lhs; rw [← Rat.num_divInt_den a, ← Rat.num_divInt_den b]
  exact Rat.divInt_mul_divInt _ _
theorem Qr_int (n : Int) : Qr (n /. 1) = ⟨Z n, ⟨false, []⟩⟩ := by
  rw [Qr_low (by omega) (by simp)]; rfl
theorem radd_core {a b : Rat} (ha : qs a = true) (hb : qs b = true) : dl (a.num * b.den).natAbs ≤ 80000000 ∧ dl (b.num * a.den).natAbs ≤ 80000000 ∧ dl (a.num * b.den + b.num * a.den).natAbs ≤ 80000001 ∧ dl ((a.den : Int) * b.den).natAbs ≤ 80000000 ∧ dl (a.num * b.num).natAbs ≤ 80000000 ∧ ((a.den : Int) * b.den) ≠ 0 := by
  obtain ⟨a1, a2⟩ := qs_dl ha
  obtain ⟨b1, b2⟩ := qs_dl hb
  have m1 := dl_mul a.num.natAbs b.den
  have m2 := dl_mul b.num.natAbs a.den
  have m3 := dl_mul a.den b.den
  have m4 := dl_mul a.num.natAbs b.num.natAbs
  have e1 : (a.num * b.den).natAbs = a.num.natAbs * b.den := by rw [Int.natAbs_mul, Int.natAbs_natCast]
  have e2 : (b.num * a.den).natAbs = b.num.natAbs * a.den := by rw [Int.natAbs_mul, Int.natAbs_natCast]
  have e3 : ((a.den : Int) * b.den).natAbs = a.den * b.den := by rw [Int.natAbs_mul, Int.natAbs_natCast, Int.natAbs_natCast]
  have e4 : (a.num * b.num).natAbs = a.num.natAbs * b.num.natAbs := Int.natAbs_mul _ _
  have hs : dl (a.num * b.den + b.num * a.den).natAbs ≤ 80000001 := by
    have h1 : dl ((a.num * b.den).natAbs + (b.num * a.den).natAbs) ≤ 80000000 + 1 := dl_add (by rw [e1]; omega) (by rw [e2]; omega)
    exact Nat.le_trans (dl_mono (Int.natAbs_add_le _ _)) h1
  refine ⟨by rw [e1]; omega, by rw [e2]; omega, hs, by rw [e3]; omega, by rw [e4]; omega, ?_⟩
  have h1 := a.den_nz
  have h2 := b.den_nz
  exact Int.mul_ne_zero (by omega) (by omega)
theorem Add_rat {a b : Rat} (ha : qs a = true) (hb : qs b = true) : Ev (fun K => F_rat_Add K (Qr a) (Qr b)) (Qr (a + b)) := by
  obtain ⟨a1, a2⟩ := qs_dl ha
  obtain ⟨b1, b2⟩ := qs_dl hb
  obtain ⟨c1, c2, c3, c4, c5, c6⟩ := radd_core ha hb
  -- the general way
  have key : Ev (fun K => (F_rat_Den (Qr a)).bind fun v12 => (F_rat_Den (Qr b)).bind fun v14 => (F_integer_Mul K (Z a.num) v14).bind fun v18 => (F_integer_Mul K (Z b.num) v12).bind fun v20 => (F_integer_Add K v18 v20).bind fun v22 => (F_integer_Mul K v12 v14).bind fun v24 => (F_rat_Make K v22 v24).bind fun v26 => some v26) (Qr (a + b)) := by
    simp only [Den_law, oB]
    refine Ev.bind (Mul_law (by simp; omega)) (Ev.bind (Mul_law (by simp; omega)) (Ev.bind (Add_law (by omega) (by omega)) (Ev.bind (Mul_law (by simp; omega)) (Ev.bind (Make_law c6 (by omega) (by omega)) ?_))))
    rw [← Add_is]
    exact Ev.pure _
  have key2 : Ev (fun K => bif decide (a.num = 0) then some (Qr b) else bif decide (b.num = 0) then some (Qr a) else (F_rat_Den (Qr a)).bind fun v12 => (F_rat_Den (Qr b)).bind fun v14 => (F_integer_Mul K (Z a.num) v14).bind fun v18 => (F_integer_Mul K (Z b.num) v12).bind fun v20 => (F_integer_Add K v18 v20).bind fun v22 => (F_integer_Mul K v12 v14).bind fun v24 => (F_rat_Make K v22 v24).bind fun v26 => some v26) (Qr (a + b)) := by
    by_cases h1 : a.num = 0
    · simp only [dT h1, cT0]
      rw [Rat.num_eq_zero.1 h1, Rat.zero_add]
      exact Ev.pure _
    · simp only [dF h1, cF0]
      by_cases h2 : b.num = 0
      · simp only [dT h2, cT0]
        rw [Rat.num_eq_zero.1 h2, Rat.add_zero]
        exact Ev.pure _
      · simp only [dF h2, cF0]
        exact key
  unfold F_rat_Add
  simp only [Qq_len, Qp, len0]
  by_cases h1 : a.den = 1
  · simp only [dT h1, cT0]
    by_cases h2 : b.den = 1
    · simp only [dT h2, cT0]
      refine Ev.bind (Add_law (by omega) (by omega)) ?_
      have : a + b = (a.num + b.num) /. 1 := by
        rw [Add_is, h1, h2]; simp
      rw [this, Qr_int]
      exact Ev.pure _
    · simp only [dF h2, cF0]
      exact key2
  · simp only [dF h1, cF0]
    exact key2
theorem cop_den {n : Int} {d e : Nat} (h : (n /. (d : Int)).den = e) (hd : d ≠ 0) : e ∣ d := by
  rw [Rat.den_divInt, if_neg (by omega)] at h
  rw [← h]
  simp only [Int.natAbs_natCast]
  exact Nat.div_dvd_of_dvd (by rw [Int.gcd_comm]; exact Nat.gcd_dvd_right _ _)
theorem cop_num {n : Int} {d : Nat} (hd : d ≠ 0) : (n /. (d : Int)).num.natAbs ∣ n.natAbs := by
  rw [Rat.num_divInt, Int.sign_eq_one_of_pos (by omega), Int.one_mul]
  rw [Int.gcd_comm]
  obtain ⟨c, hc⟩ := Int.gcd_dvd_left (a := n) (b := (d : Int))
  have hg : 0 < Int.gcd n d := Int.gcd_pos_of_ne_zero_right n (by omega)
  generalize Int.gcd n d = g at *
  have e : n / (g : Int) = c := by rw [hc]; exact Int.mul_ediv_cancel_left _ (by omega)
  rw [e, hc, Int.natAbs_mul]
  exact Nat.dvd_mul_left _ _
theorem Mul_gcd {a b : Rat} : Int.gcd ((a.num /. b.den).num * (b.num /. a.den).num) (((a.num /. b.den).den : Int) * (b.num /. a.den).den) = 1 := by
  have ha := a.den_nz
  have hb := b.den_nz
  have h1 := (a.num /. b.den).reduced
  have h2 := (b.num /. a.den).reduced
  have ra := a.reduced
  have rb := b.reduced
  have n1 : (a.num /. (b.den : Int)).num.natAbs ∣ a.num.natAbs := cop_num hb
  have n2 : (b.num /. (a.den : Int)).num.natAbs ∣ b.num.natAbs := cop_num ha
  have d1 : (a.num /. (b.den : Int)).den ∣ b.den := cop_den rfl hb
  have d2 : (b.num /. (a.den : Int)).den ∣ a.den := cop_den rfl ha
  have x1 : Nat.Coprime (a.num /. (b.den : Int)).num.natAbs (b.num /. (a.den : Int)).den := Nat.Coprime.coprime_dvd_left n1 (Nat.Coprime.coprime_dvd_right d2 ra)
  have x2 : Nat.Coprime (b.num /. (a.den : Int)).num.natAbs (a.num /. (b.den : Int)).den := Nat.Coprime.coprime_dvd_left n2 (Nat.Coprime.coprime_dvd_right d1 rb)
  show Nat.gcd _ _ = 1
  rw [Int.natAbs_mul, Int.natAbs_mul, Int.natAbs_natCast, Int.natAbs_natCast]
  exact Nat.Coprime.mul_left (Nat.Coprime.mul_right h1 x1) (Nat.Coprime.mul_right x2 h2)
theorem dl_part {n : Int} {d : Nat} (hd : d ≠ 0) : dl (n /. (d : Int)).num.natAbs ≤ dl n.natAbs ∧ dl (n /. (d : Int)).den ≤ dl d := by
  constructor
  · by_cases h : n = 0
    · subst h; rw [Rat.zero_divInt]; exact Nat.le_refl _
    · exact dl_mono (Nat.le_of_dvd (by omega) (cop_num hd))
  · exact dl_mono (Nat.le_of_dvd (by omega) (cop_den rfl hd))
theorem Mul_core2 {a b : Rat} (ha : qs a = true) (hb : qs b = true) : Ev (fun K => (F_rat_Den (Qr b)).bind fun v12 => (F_rat_Make K (Z a.num) v12).bind fun v14 => (F_rat_Den (Qr a)).bind fun v16 => (F_rat_Make K (Z b.num) v16).bind fun v18 => (F_integer_Mul K v14.p v18.p).bind fun v22 => (F_rat_Den v14).bind fun v24 => (F_rat_Den v18).bind fun v26 => (F_integer_Mul K v24 v26).bind fun v28 => (F_rat_lowest v22 v28).bind fun v30 => some v30) (Qr (a * b)) := by
  obtain ⟨a1, a2⟩ := qs_dl ha
  obtain ⟨b1, b2⟩ := qs_dl hb
  have ha0 := a.den_nz
  have hb0 := b.den_nz
  have p1 := dl_part (n := a.num) hb0
  have p2 := dl_part (n := b.num) ha0
  simp only [Den_law, oB]
  refine Ev.bind (Make_law (by omega) (by omega) (by simp; omega)) (Ev.bind (Make_law (by omega) (by omega) (by simp; omega)) ?_)
  simp only [Qp]
  refine Ev.bind (Mul_law (by omega)) ?_
  simp only [Den_law, oB]
  refine Ev.bind (Mul_law (by rw [Int.natAbs_natCast, Int.natAbs_natCast]; omega)) ?_
  have e1 := (a.num /. (b.den : Int)).den_nz
  have e2 := (b.num /. (a.den : Int)).den_nz
  rw [lowest_law (Int.mul_ne_zero (by omega) (by omega)) Mul_gcd, oB, ← Mul_is]
  have : a.num /. (b.den : Int) * (b.num /. (a.den : Int)) = a * b := by
    rw [Rat.divInt_mul_divInt, Mul_is, Int.mul_comm (b.den : Int)]
  rw [this]
  exact Ev.pure _
theorem Mul_rat {a b : Rat} (ha : qs a = true) (hb : qs b = true) : Ev (fun K => F_rat_Mul K (Qr a) (Qr b)) (Qr (a * b)) := by
  obtain ⟨a1, a2⟩ := qs_dl ha
  obtain ⟨b1, b2⟩ := qs_dl hb
  have key := Mul_core2 ha hb
  unfold F_rat_Mul
  simp only [Qq_len, Qp, len0]
  by_cases h1 : a.num = 0
  · simp only [dT h1, cT0]
    rw [Rat.num_eq_zero.1 h1, Rat.zero_mul, Qr_zero]
    exact Ev.pure _
  · simp only [dF h1, cF0]
    by_cases h2 : b.num = 0
    · simp only [dT h2, cT0]
      rw [Rat.num_eq_zero.1 h2, Rat.mul_zero, Qr_zero]
      exact Ev.pure _
    · simp only [dF h2, cF0]
      by_cases h3 : a.den = 1
      · simp only [dT h3, cT0]
        by_cases h4 : b.den = 1
        · simp only [dT h4, cT0]
          refine Ev.bind (Mul_law (by omega)) ?_
          have : a * b = (a.num * b.num) /. 1 := by rw [Mul_is, h3, h4]; rfl
          rw [this, Qr_int]
          exact Ev.pure _
        · simp only [dF h4, cF0]
          exact key
      · simp only [dF h3, cF0]
        exact key
theorem Neg_rat (a : Rat) : F_rat_Neg (Qr a) = some (Qr (-a)) := by
  unfold F_rat_Neg
  rw [Qp, Neg_law, oB]
  congr 1
  rw [Qr_def (-a), Rat.neg_num, Rat.neg_den, Qq]
theorem qs_neg {a : Rat} (h : qs a = true) : qs (-a) = true := by
  unfold qs at *; rw [Rat.neg_num, Rat.neg_den, Int.natAbs_neg]; exact h
theorem Sub_rat {a b : Rat} (ha : qs a = true) (hb : qs b = true) : Ev (fun K => F_rat_Sub K (Qr a) (Qr b)) (Qr (a - b)) := by
  unfold F_rat_Sub
  simp only [Neg_rat, oB]
  refine Ev.bind (Add_rat ha (qs_neg hb)) ?_
  rw [Rat.sub_eq_add_neg]
  exact Ev.pure _
theorem Sign_rat (a : Rat) : F_rat_Sign (Qr a) = some a.num.sign := by
  unfold F_rat_Sign
  rw [Qp, Sign_law]; rfl
theorem inv_num {b : Rat} (h : b.num ≠ 0) : b⁻¹ = (b.den : Int) /. b.num := Rat.inv_def b
theorem qs_inv {b : Rat} (hb : qs b = true) : qs (b⁻¹) = true := by
  by_cases h : b.num = 0
  · rw [Rat.num_eq_zero.1 h, Rat.inv_zero]; decide
  · have hc : Nat.gcd b.num.natAbs b.den = 1 := b.reduced
    rw [inv_num h]
    unfold qs at *
    have e1 : ((b.den : Int) /. b.num).num.natAbs = b.den := by
      rw [Rat.num_divInt]
      have : Int.gcd b.num b.den = 1 := hc
      rw [this]
      simp only [Int.natCast_one, Int.ediv_one, Int.natAbs_mul, Int.natAbs_natCast, Int.natAbs_sign_of_ne_zero h, Nat.one_mul]
    have e2 : ((b.den : Int) /. b.num).den = b.num.natAbs := by
      rw [Rat.den_divInt, if_neg h]
      have : Int.gcd b.num b.den = 1 := hc
      rw [this, Nat.div_one]
    rw [e1, e2, Bool.and_comm]
    exact hb
theorem Div_rat {a b : Rat} (ha : qs a = true) (hb : qs b = true) : Ev (fun K => F_rat_Div K (Qr a) (Qr b)) (Qr (a / b)) := by
  unfold F_rat_Div
  simp only [Qp, len0]
  by_cases h : b.num = 0
  · simp only [dT h, cT0]
    rw [Rat.num_eq_zero.1 h, Rat.div_def, Rat.inv_zero, Rat.mul_zero, Qr_zero]
    exact Ev.pure _
  · simp only [dF h, cF0, Den_law, oB]
    have hc : Int.gcd (b.den : Int) b.num = 1 := by rw [Int.gcd_comm]; exact b.reduced
    rw [lowest_law h hc, ← inv_num h]
    simp only [oB]
    refine Ev.bind (Mul_rat ha (qs_inv hb)) ?_
    rw [Rat.div_def]
    exact Ev.pure _
theorem Equal_l4 (x y : List Int) (hl : x.length = y.length) (hL : x.length ≤ 9000000000000) : ∀ (t i : Nat), i + t = x.length → ∀ K k, t < k → F_slices_Equal_int_l4 K x y k (i : Int) = some (if x.drop i = y.drop i then .go () else .ret false)
  | 0, i, hi, K, k, hk => by
    obtain ⟨k', rfl, _⟩ := fuel hk
    have : i = x.length := by omega
    subst this
    simp only [F_slices_Equal_int_l4, dF (show ¬ (x.length : Int) < (x.length : Int) by omega), cF0]
    rw [if_pos]
    rw [List.drop_of_length_le (Nat.le_refl _), List.drop_of_length_le (by omega)]
  | t + 1, i, hi, K, k, hk => by
    obtain ⟨k', rfl, _⟩ := fuel hk
    have e1 : decide ((i : Int) < (x.length : Int)) = true := dT (by omega)
    have e2 := rdL_ok (xs := x) (i := i) (by omega)
    have e3 := rdL_ok (xs := y) (i := i) (by omega)
    have e5 : chk ((i : Int) + 1) = some ((i + 1 : Nat) : Int) := ckN (m := 0) (by omega) (by omega)
    have dx : x.drop i = x.getD i 0 :: x.drop (i + 1) := by
      rw [List.drop_eq_getElem_cons (by omega)]; simp [List.getD_eq_getElem?_getD, show i < x.length by omega]
    have dy : y.drop i = y.getD i 0 :: y.drop (i + 1) := by
      rw [List.drop_eq_getElem_cons (by omega)]; simp [List.getD_eq_getElem?_getD, show i < y.length by omega]
    by_cases h : x.getD i 0 = y.getD i 0
    · have ih := Equal_l4 x y hl hL t (i + 1) (by omega) K k' (by omega)
      simp only [F_slices_Equal_int_l4, e1, e2, e3, e5, nF h, cT0, cF0, oB, ih]
      by_cases hd : x.drop (i + 1) = y.drop (i + 1)
      · rw [if_pos hd, if_pos (by rw [dx, dy, h, hd])]
      · rw [if_neg hd, if_neg (by rw [dx, dy]; intro e; exact hd (List.cons.inj e).2)]
    · simp only [F_slices_Equal_int_l4, e1, e2, e3, nT h, cT0, oB]
      rw [if_neg (by rw [dx, dy]; intro e; exact h (List.cons.inj e).1)]
theorem Equal_law (x y : List Int) (hL : x.length ≤ 9000000000000) : Ev (fun K => F_slices_Equal_int K x y) (decide (x = y)) := by
  refine ⟨x.length + 1, fun K hK => ?_⟩
  unfold F_slices_Equal_int
  by_cases h2 : x.length = y.length
  · have h := Equal_l4 x y h2 hL x.length 0 (by omega) K K (by omega)
    simp only [Int.natCast_zero, List.drop_zero] at h
    simp only [nF (show (x.length : Int) = (y.length : Int) by omega), cF0, h, oB]
    by_cases h3 : x = y
    · rw [if_pos h3, dT h3]; rfl
    · rw [if_neg h3, dF h3]
  · simp only [nT (show (x.length : Int) ≠ (y.length : Int) by omega), cT0]
    rw [dF (by intro e; subst e; exact h2 rfl)]
theorem Same1_law (x y : GInt) (hL : x.d.length ≤ 9000000000000) : Ev (fun K => F_rat_Same_1 K x y) (decide (x = y)) := by
  unfold F_rat_Same_1
  by_cases h1 : x.neg = y.neg
  · have e1 : (x.neg == y.neg) = true := beq_iff_eq.2 h1
    simp only [e1, cT0]
    refine Ev.bind (Equal_law _ _ hL) ?_
    have : decide (x.d = y.d) = decide (x = y) := by
      by_cases h3 : x.d = y.d
      · rw [dT h3, dT (by cases x; cases y; simp_all)]
      · rw [dF h3, dF (by intro e; subst e; exact h3 rfl)]
    rw [this]
    exact Ev.pure _
  · have e1 : (x.neg == y.neg) = false := beq_false_of_ne h1
    simp only [e1, cF0]
    rw [dF (by intro e; subst e; exact h1 rfl)]
    exact Ev.pure _
theorem Q_len {a : Rat} (h : qs a = true) : (Qr a).p.d.length ≤ 9000000000000 ∧ (Qr a).q.d.length ≤ 9000000000000 := by
  obtain ⟨a1, a2⟩ := qs_dl h
  rw [Qp, Qq, Z_len]
  refine ⟨by omega, ?_⟩
  by_cases h : a.den = 1
  · rw [if_pos h]; simp
  · rw [if_neg h, Z_len]; simp; omega
theorem Same_dec (a b : Rat) : (bif decide ((Qr a).p = (Qr b).p) then decide ((Qr a).q = (Qr b).q) else false) = decide (a = b) := by
  by_cases h : a = b
  · subst h; simp
  · rw [dF h]
    by_cases h1 : (Qr a).p = (Qr b).p
    · rw [dT h1, cT0, dF]
      intro h2
      exact h (Qr_inj (by cases hx : Qr a; cases hy : Qr b; rw [hx, hy] at h1 h2; simp_all))
    · rw [dF h1]; rfl
theorem Same_rat {a b : Rat} (ha : qs a = true) (hb : qs b = true) : Ev (fun K => F_rat_Same K (Qr a) (Qr b)) (decide (a = b)) := by
  obtain ⟨l1, l2⟩ := Q_len ha
  unfold F_rat_Same
  refine Ev.bind (Same1_law _ _ l1) ?_
  rw [← Same_dec]
  by_cases h : (Qr a).p = (Qr b).p
  · simp only [dT h, cT0]
    exact Ev.bind (Same1_law _ _ l2) (Ev.pure _)
  · simp only [dF h, cF0]
    exact Ev.pure _
theorem rSame_rat {a b : Rat} (ha : qs a = true) (hb : qs b = true) : Ev (fun K => F_gantryref05_Same K (Qr a) (Qr b)) (decide (a = b)) := by
  obtain ⟨l1, l2⟩ := Q_len ha
  unfold F_gantryref05_Same
  refine Ev.bind (rSame_law _ _ l1) ?_
  rw [← Same_dec]
  by_cases h : (Qr a).p = (Qr b).p
  · simp only [dT h, cT0]
    exact Ev.bind (rSame_law _ _ l2) (Ev.pure _)
  · simp only [dF h, cF0]
    exact Ev.pure _
theorem rAdd_rat {a b : Rat} (ha : qs a = true) (hb : qs b = true) : Ev (fun K => F_gantryref05_Add K (Qr a) (Qr b)) (Qr (a + b)) := by
  obtain ⟨a1, a2⟩ := qs_dl ha
  obtain ⟨b1, b2⟩ := qs_dl hb
  obtain ⟨c1, c2, c3, c4, c5, c6⟩ := radd_core ha hb
  unfold F_gantryref05_Add
  refine Ev.bind (rDen_law b) ?_
  simp only [Qp]
  refine Ev.bind (rMul_law (by simp; omega)) (Ev.bind (rDen_law a) (Ev.bind (rMul_law (by simp; omega)) (Ev.bind (rAdd_law (by omega) (by omega)) (Ev.bind (rDen_law a) (Ev.bind (rDen_law b) (Ev.bind (rMul_law (by simp; omega)) (Ev.bind (rMake_law c6 (by omega) (by omega)) ?_)))))))
  rw [← Add_is]
  exact Ev.pure _
theorem rMul_rat {a b : Rat} (ha : qs a = true) (hb : qs b = true) : Ev (fun K => F_gantryref05_Mul K (Qr a) (Qr b)) (Qr (a * b)) := by
  obtain ⟨a1, a2⟩ := qs_dl ha
  obtain ⟨b1, b2⟩ := qs_dl hb
  obtain ⟨c1, c2, c3, c4, c5, c6⟩ := radd_core ha hb
  unfold F_gantryref05_Mul
  simp only [Qp]
  refine Ev.bind (rMul_law (by omega)) (Ev.bind (rDen_law a) (Ev.bind (rDen_law b) (Ev.bind (rMul_law (by simp; omega)) (Ev.bind (rMake_law c6 (by omega) (by omega)) ?_))))
  rw [← Mul_is]
  exact Ev.pure _
theorem rNeg_rat {a : Rat} (ha : qs a = true) : Ev (fun K => F_gantryref05_Neg K (Qr a)) (Qr (-a)) := by
  obtain ⟨a1, a2⟩ := qs_dl ha
  unfold F_gantryref05_Neg
  rw [Qp]
  refine Ev.bind (rNeg_law _ (by omega)) ?_
  have : (⟨Z (-a.num), (Qr a).q⟩ : GRat) = Qr (-a) := by rw [Qr_def (-a), Rat.neg_num, Rat.neg_den, Qq]
  rw [this]
  exact Ev.pure _
theorem rSub_rat {a b : Rat} (ha : qs a = true) (hb : qs b = true) : Ev (fun K => F_gantryref05_Sub K (Qr a) (Qr b)) (Qr (a - b)) := by
  unfold F_gantryref05_Sub
  refine Ev.bind (rNeg_rat hb) (Ev.bind (rAdd_rat ha (qs_neg hb)) ?_)
  rw [Rat.sub_eq_add_neg]
  exact Ev.pure _
theorem rSign_rat {a : Rat} (ha : qs a = true) : Ev (fun K => F_gantryref05_Sign K (Qr a)) a.num.sign := by
  obtain ⟨a1, a2⟩ := qs_dl ha
  unfold F_gantryref05_Sign
  rw [Qp]
  exact Ev.bind (rSign_law (by omega)) (Ev.pure _)
theorem rDiv_rat {a b : Rat} (ha : qs a = true) (hb : qs b = true) : Ev (fun K => F_gantryref05_Div K (Qr a) (Qr b)) (Qr (a / b)) := by
  obtain ⟨a1, a2⟩ := qs_dl ha
  obtain ⟨b1, b2⟩ := qs_dl hb
  obtain ⟨c1, c2, c3, c4, c5, c6⟩ := radd_core ha hb
  have ha0 := a.den_nz
  unfold F_gantryref05_Div
  refine Ev.bind (rDen_law b) ?_
  simp only [Qp]
  have e4 : ((a.den : Int) * b.num).natAbs = b.num.natAbs * a.den := by rw [Int.natAbs_mul, Int.natAbs_natCast, Nat.mul_comm]
  have m4 := dl_mul b.num.natAbs a.den
  refine Ev.bind (rMul_law (by simp; omega)) (Ev.bind (rDen_law a) (Ev.bind (rMul_law (by simp; omega)) ?_))
  by_cases h : b.num = 0
  · rw [h, Int.mul_zero]
    refine Ev.bind (rMake_zero _) ?_
    rw [Rat.num_eq_zero.1 h, Rat.div_def, Rat.inv_zero, Rat.mul_zero]
    exact Ev.pure _
  · refine Ev.bind (rMake_law (Int.mul_ne_zero (by omega) h) (by omega) (by rw [e4]; omega)) ?_
    have : (a.num * b.den) /. ((a.den : Int) * b.num) = a / b := by
      rw [Rat.div_def, inv_num h]
      conv => rhs; rw [← Rat.num_divInt_den a]
      rw [Rat.divInt_mul_divInt]
    rw [this]
    exact Ev.pure _
theorem Of_rat {p q : Int} (hp : -9223372036854775808 ≤ p ∧ p ≤ 9223372036854775807) (hq : -9223372036854775808 ≤ q ∧ q ≤ 9223372036854775807) : Ev (fun K => F_rat_Of K p q) (Qr ((p : Rat) / q)) := by
  have hs : ∀ n : Int, -9223372036854775808 ≤ n ∧ n ≤ 9223372036854775807 → dl n.natAbs ≤ 3 := fun n h => dl_le (by
    have : PB 3 = 1000000000000000000000000000 := by decide
    omega)
  have h1 := hs p hp
  have h2 := hs q hq
  unfold F_rat_Of
  simp only [Of_law hp, Of_law hq, oB]
  rw [← Rat.divInt_eq_div]
  by_cases h : q = 0
  · subst h
    rw [Rat.divInt_zero]
    exact Ev.bind (Make_zero p) (Ev.pure _)
  · exact Ev.bind (Make_law h (by omega) (by omega)) (Ev.pure _)
theorem rOf_rat {p q : Int} (hp : -9223372036854775808 ≤ p ∧ p ≤ 9223372036854775807) (hq : -9223372036854775808 ≤ q ∧ q ≤ 9223372036854775807) : Ev (fun K => F_gantryref05_Of K p q) (Qr ((p : Rat) / q)) := by
  have hs : ∀ n : Int, -9223372036854775808 ≤ n ∧ n ≤ 9223372036854775807 → dl n.natAbs ≤ 3 := fun n h => dl_le (by
    have : PB 3 = 1000000000000000000000000000 := by decide
    omega)
  have h1 := hs p hp
  have h2 := hs q hq
  unfold F_gantryref05_Of
  refine Ev.bind (rOf_law hp) (Ev.bind (rOf_law hq) ?_)
  rw [← Rat.divInt_eq_div]
  by_cases h : q = 0
  · subst h
    rw [Rat.divInt_zero]
    exact Ev.bind (rMake_zero p) (Ev.pure _)
  · exact Ev.bind (rMake_law h (by omega) (by omega)) (Ev.pure _)
theorem Ev.get {α : Type} {f : Nat → Option α} {r : α} (h : Ev f r) : ∃ K, f K = some r := let ⟨N, h⟩ := h; ⟨N, h N (Nat.le_refl _)⟩
theorem two_qs {α : Type} {a b : Rat} {r s : α} (h : (bif qs a && qs b then some s else none) = some r) : qs a = true ∧ qs b = true ∧ s = r := by
  cases ha : qs a <;> cases hb : qs b <;> rw [ha, hb] at h <;> simp at h
  exact ⟨rfl, rfl, h⟩
theorem one_qs {α : Type} {a : Rat} {r s : α} (h : (bif qs a then some s else none) = some r) : qs a = true ∧ s = r := by
  cases ha : qs a <;> rw [ha] at h <;> simp at h
  exact ⟨rfl, h⟩
theorem of_ck {p q : Int} {r : Rat} (h : qof p q = some r) : (-9223372036854775808 ≤ p ∧ p ≤ 9223372036854775807) ∧ (-9223372036854775808 ≤ q ∧ q ≤ 9223372036854775807) ∧ r = (p : Rat) / q := by
  unfold qof at h
  obtain ⟨p', h1, k1⟩ := bnd h
  obtain ⟨q', h2, k2⟩ := bnd k1
  obtain ⟨e1, e2⟩ := chk_some h1
  obtain ⟨e3, e4⟩ := chk_some h2
  rw [e1, e3] at k2
  exact ⟨e2, e4, (Option.some.inj k2).symm⟩
theorem qc_rat_Sub {a b r : Rat} (h : qsub a b = some r) : Ct Tryz.prog N_rat_Sub [.va (eQ a), .va (eQ b)] (.va (eQ r)) := by
  obtain ⟨h1, h2, rfl⟩ := two_qs h
  obtain ⟨K, hK⟩ := (Sub_rat h1 h2).get
  exact ct_rat_Sub hK
theorem qc_rat_Mul {a b r : Rat} (h : qmul a b = some r) : Ct Tryz.prog N_rat_Mul [.va (eQ a), .va (eQ b)] (.va (eQ r)) := by
  obtain ⟨h1, h2, rfl⟩ := two_qs h
  obtain ⟨K, hK⟩ := (Mul_rat h1 h2).get
  exact ct_rat_Mul hK
theorem qc_rat_Div {a b r : Rat} (h : qdiv a b = some r) : Ct Tryz.prog N_rat_Div [.va (eQ a), .va (eQ b)] (.va (eQ r)) := by
  obtain ⟨h1, h2, rfl⟩ := two_qs h
  obtain ⟨K, hK⟩ := (Div_rat h1 h2).get
  exact ct_rat_Div hK
theorem qc_rat_Neg {a r : Rat} (h : qneg a = some r) : Ct Tryz.prog N_rat_Neg [.va (eQ a)] (.va (eQ r)) := by
  obtain ⟨h1, rfl⟩ := one_qs h
  exact ct_rat_Neg (Neg_rat a)
theorem qc_rat_Sign {a : Rat} {r : Int} (h : qsgn a = some r) : Ct Tryz.prog N_rat_Sign [.va (eQ a)] (.vc (pI .i64 r)) := by
  obtain ⟨h1, rfl⟩ := one_qs h
  exact ct_rat_Sign (Sign_rat a)
theorem qc_rat_Same {a b : Rat} {r : Bool} (h : qsame a b = some r) : Ct Tryz.prog N_rat_Same [.va (eQ a), .va (eQ b)] (.vc (pB r)) := by
  obtain ⟨h1, h2, rfl⟩ := two_qs h
  obtain ⟨K, hK⟩ := (Same_rat h1 h2).get
  exact ct_rat_Same hK
theorem qc_rat_Of {p q : Int} {r : Rat} (h : qof p q = some r) : Ct Tryz.prog N_rat_Of [.vc (pI .i64 p), .vc (pI .i64 q)] (.va (eQ r)) := by
  obtain ⟨h1, h2, rfl⟩ := of_ck h
  obtain ⟨K, hK⟩ := (Of_rat h1 h2).get
  exact ct_rat_Of hK
theorem qc_gantryref05_Add {a b r : Rat} (h : qadd a b = some r) : Ct Tryz.prog N_gantryref05_Add [.va (eQ a), .va (eQ b)] (.va (eQ r)) := by
  obtain ⟨h1, h2, rfl⟩ := two_qs h
  obtain ⟨K, hK⟩ := (rAdd_rat h1 h2).get
  exact ct_gantryref05_Add hK
theorem qc_gantryref05_Sub {a b r : Rat} (h : qsub a b = some r) : Ct Tryz.prog N_gantryref05_Sub [.va (eQ a), .va (eQ b)] (.va (eQ r)) := by
  obtain ⟨h1, h2, rfl⟩ := two_qs h
  obtain ⟨K, hK⟩ := (rSub_rat h1 h2).get
  exact ct_gantryref05_Sub hK
theorem qc_gantryref05_Mul {a b r : Rat} (h : qmul a b = some r) : Ct Tryz.prog N_gantryref05_Mul [.va (eQ a), .va (eQ b)] (.va (eQ r)) := by
  obtain ⟨h1, h2, rfl⟩ := two_qs h
  obtain ⟨K, hK⟩ := (rMul_rat h1 h2).get
  exact ct_gantryref05_Mul hK
theorem qc_gantryref05_Div {a b r : Rat} (h : qdiv a b = some r) : Ct Tryz.prog N_gantryref05_Div [.va (eQ a), .va (eQ b)] (.va (eQ r)) := by
  obtain ⟨h1, h2, rfl⟩ := two_qs h
  obtain ⟨K, hK⟩ := (rDiv_rat h1 h2).get
  exact ct_gantryref05_Div hK
theorem qc_gantryref05_Neg {a r : Rat} (h : qneg a = some r) : Ct Tryz.prog N_gantryref05_Neg [.va (eQ a)] (.va (eQ r)) := by
  obtain ⟨h1, rfl⟩ := one_qs h
  obtain ⟨K, hK⟩ := (rNeg_rat h1).get
  exact ct_gantryref05_Neg hK
theorem qc_gantryref05_Sign {a : Rat} {r : Int} (h : qsgn a = some r) : Ct Tryz.prog N_gantryref05_Sign [.va (eQ a)] (.vc (pI .i64 r)) := by
  obtain ⟨h1, rfl⟩ := one_qs h
  obtain ⟨K, hK⟩ := (rSign_rat h1).get
  exact ct_gantryref05_Sign hK
theorem qc_gantryref05_Same {a b : Rat} {r : Bool} (h : qsame a b = some r) : Ct Tryz.prog N_gantryref05_Same [.va (eQ a), .va (eQ b)] (.vc (pB r)) := by
  obtain ⟨h1, h2, rfl⟩ := two_qs h
  obtain ⟨K, hK⟩ := (rSame_rat h1 h2).get
  exact ct_gantryref05_Same hK
theorem qc_gantryref05_Of {p q : Int} {r : Rat} (h : qof p q = some r) : Ct Tryz.prog N_gantryref05_Of [.vc (pI .i64 p), .vc (pI .i64 q)] (.va (eQ r)) := by
  obtain ⟨h1, h2, rfl⟩ := of_ck h
  obtain ⟨K, hK⟩ := (rOf_rat h1 h2).get
  exact ct_gantryref05_Of hK
end Go.Proofs.YtkjnngaceacmdaaGreat
