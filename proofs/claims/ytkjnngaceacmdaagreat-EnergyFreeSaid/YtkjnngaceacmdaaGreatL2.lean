/- What the generators of small models give, and the sums of package energy. -/
import Derived.Test.YtkjnngaceacmdaaGreatL1
import Derived.Test.YtkjnngaceacmdaaGreatQZ
set_option linter.unusedVariables false
namespace Go.Proofs.YtkjnngaceacmdaaGreat

theorem Around_ok {x m : Int} (hx : -9223372036854775808 ≤ x ∧ x ≤ 9223372036854775807) (hm : 0 < m) : ∃ r, F_gantryref01_Around x m = some r ∧ 0 ≤ r ∧ r < m := by
  unfold F_gantryref01_Around
  by_cases h : x < 0
  · refine ⟨(-(x + 1)) % m, ?_, Int.emod_nonneg _ (by omega), Int.emod_lt_of_pos _ hm⟩
    rw [dT h, cT0, ckO (by omega), oB, ckO (by omega), oB, chr_ok (by omega) hm, oB]
  · refine ⟨x % m, ?_, Int.emod_nonneg _ (by omega), Int.emod_lt_of_pos _ hm⟩
    rw [dF h, cF0, chr_ok (by omega) hm, oB]
theorem At_ok {l : List Int} (hl : I64s l) (i : Int) {m : Int} (hm : 0 < m) : ∃ r, F_gantryref01_At l i m = some r ∧ 0 ≤ r ∧ r < m := by
  unfold F_gantryref01_At
  by_cases h : i < 0
  · exact ⟨0, by rw [dT h, cT0], by omega, hm⟩
  · rw [dF h, cF0]
    by_cases h2 : (l.length : Int) ≤ i
    · exact ⟨0, by rw [dT h2, cT0], by omega, hm⟩
    · rw [dF h2, cF0]
      obtain ⟨n, rfl⟩ : ∃ n : Nat, i = n := ⟨i.toNat, by omega⟩
      obtain ⟨x, hx, _, hr⟩ := rdM (xs := l) (i := n) (by omega)
      obtain ⟨r, h3, h4, h5⟩ := Around_ok (hl x hx) hm
      exact ⟨r, by rw [hr, oB, h3, oB], h4, h5⟩
theorem mod_bd {a m : Int} (h : 0 ≤ a) (hm : 0 < m) : 0 ≤ a % m ∧ a % m < m := ⟨Int.emod_nonneg _ (by omega), Int.emod_lt_of_pos _ hm⟩
theorem Small_ok {x : Int} (hx : -9223372036854775808 ≤ x ∧ x ≤ 9223372036854775807) : ∃ r, F_gantryref05_Small x = some r ∧ Bd 8 r := by
  unfold F_gantryref05_Small
  obtain ⟨k, h1, h2, h3⟩ := Around_ok hx (m := 1099511627776) (by omega)
  have m6 := mod_bd h2 (show (0 : Int) < 6 by omega)
  rw [h1, oB, chr_ok h2 (by omega), oB, ckO (by omega), oB, chq_ok h2 (by omega) (by omega), oB, ckO (by omega), oB, ckO (by omega), oB]
  have m7 := mod_bd (a := k / 6) (m := 16 * (1 + k % 6) + 1) (by omega) (by omega)
  rw [chr_ok (by omega) (by omega), oB, ckO (by omega), oB, ckO (by omega), oB]
  obtain ⟨r, h4, h5, h6⟩ := qof_bd (k := 8) (p := k / 6 % (16 * (1 + k % 6) + 1) - 8 * (1 + k % 6)) (q := 1 + k % 6) (by omega) (by omega) (by omega) (by omega)
  exact ⟨r, by rw [h4, oB], h6⟩
theorem num_ok {n : Int} (h : n.natAbs < 4294967296) : ∃ r, F_gantryref15_num n = some r ∧ Bd 32 r := by
  unfold F_gantryref15_num
  obtain ⟨r, h1, h2, h3⟩ := qof_bd (k := 32) (p := n) (q := 1) (by omega) h (by decide) (by omega)
  exact ⟨r, by rw [h1, oB], h3⟩
/-- A list of so many small numbers. -/
def Bds (k : Nat) (xs : List Rat) : Prop := ∀ x ∈ xs, Bd k x
theorem Bds.snoc {k : Nat} {xs : List Rat} {x : Rat} (h : Bds k xs) (hx : Bd k x) : Bds k (xs ++ [x]) := fun y hy => by
  rcases List.mem_append.1 hy with h1 | h1
  · exact h y h1
  · rw [List.mem_singleton.1 h1]; exact hx
theorem apS {α : Type} {xs : List α} {x : α} (h : xs.length ≤ 60000000000) : apL xs [x] = some (xs ++ [x]) := apL_ok (by simp; omega)
theorem numbers_l23 {l : List Int} (hl : I64s l) (at0 : Int) (h0 : 0 ≤ at0 ∧ at0 ≤ 1000000000) (n : Nat) (hn : n ≤ 1000000000) (K : Nat) : ∀ (t i : Nat) (out : List Rat), i + t = n → out.length = i → Bds 8 out → ∃ r, r.length = n ∧ Bds 8 r ∧ ∀ k, t < k → F_gantrylaw21_numbers_l23 K l at0 (n : Int) k out (i : Int) = some r
  | 0, i, out, hi, ho, hb => by
    refine ⟨out, by omega, hb, fun k hk => ?_⟩
    obtain ⟨k', rfl, _⟩ := fuel hk
    simp only [F_gantrylaw21_numbers_l23, dF (show ¬ (i : Int) < (n : Int) by omega), cF0]
  | t + 1, i, out, hi, ho, hb => by
    obtain ⟨v, v1, v2, v3⟩ := At_ok hl (at0 + i) (m := 1073741824) (by omega)
    obtain ⟨r, r1, r2⟩ := Small_ok (x := v) (by omega)
    obtain ⟨s, s1, s2, s3⟩ := numbers_l23 hl at0 h0 n hn K t (i + 1) (out ++ [r]) (by omega) (by simp [ho]) (hb.snoc r2)
    refine ⟨s, s1, s2, fun k hk => ?_⟩
    obtain ⟨k', rfl, _⟩ := fuel hk
    simp only [F_gantrylaw21_numbers_l23, dT (show (i : Int) < (n : Int) by omega), cT0, ckO (show -9223372036854775808 ≤ at0 + (i : Int) ∧ at0 + (i : Int) ≤ 9223372036854775807 by omega), v1, r1, apS (xs := out) (x := r) (by omega), ckN (m := 0) (n := i + 1) (show (i : Int) + 1 = ((i + 1 : Nat) : Int) by omega) (by omega), oB]
    exact s3 k' (by omega)
theorem numbers_ok {l : List Int} (hl : I64s l) (at0 : Int) (h0 : 0 ≤ at0 ∧ at0 ≤ 1000000000) (n : Nat) (hn : n ≤ 1000000000) : ∃ r, r.length = n ∧ Bds 8 r ∧ Ev (fun K => F_gantrylaw21_numbers K l at0 (n : Int)) r := by
  obtain ⟨r, h1, h2⟩ := numbers_l23 hl at0 h0 n hn 0 n 0 [] (by omega) rfl (fun x hx => by simp at hx)
  have key : ∀ K, ∃ r, r.length = n ∧ Bds 8 r ∧ ∀ k, n < k → F_gantrylaw21_numbers_l23 K l at0 (n : Int) k [] 0 = some r := fun K => numbers_l23 hl at0 h0 n hn K n 0 [] (by omega) rfl (fun x hx => by simp at hx)
  have ind : ∀ K k (out : List Rat) (i : Int), F_gantrylaw21_numbers_l23 K l at0 (n : Int) k out i = F_gantrylaw21_numbers_l23 0 l at0 (n : Int) k out i := by
    intro K k
    induction k with
    | zero => intro out i; rfl
    | succ k ih => intro out i; simp only [F_gantrylaw21_numbers_l23, ih]
  refine ⟨r, h1, h2.1, ⟨n + 1, fun K hK => ?_⟩⟩
  have := h2.2 K (by omega)
  simp only [Int.natCast_zero] at this
  simp only [F_gantrylaw21_numbers, ind, this, oB, F_gantrylaw21_numbers_j24]
/-- A degree of freedom with small numbers. -/
def DofOk (d : api_Dof) : Prop := Bd 8 d.inv ∧ d.inv ≠ 0 ∧ Bd 8 d.load
/-- A model of which we know the degrees of freedom, and how many parts it has. -/
structure ModOk (n : Nat) (m : api_Model) : Prop where
  dofs : ∀ d ∈ m.dofs, DofOk d
  nd : m.dofs.length ≤ n
  np : m.parts.length ≤ n
  nr : m.ropes.length ≤ n
  home : ∀ p ∈ m.parts, Bd 40 p.home.y
theorem div_ne {p q : Int} (hp : p ≠ 0) (hq : q ≠ 0) : (p : Rat) / q ≠ 0 := by
  rw [← Rat.divInt_eq_div]
  intro h
  have := congrArg Rat.num h
  rw [Rat.num_divInt] at this
  have e : (0 : Rat).num = 0 := rfl
  rw [e] at this
  obtain ⟨c, hc⟩ := Int.gcd_dvd_right (a := q) (b := p)
  have hg : 0 < Int.gcd q p := Int.gcd_pos_of_ne_zero_left p hq
  have h2 : q.sign * p / ((Int.gcd q p : Nat) : Int) = q.sign * c := by
    conv => lhs; rw [hc]
    rw [← Int.mul_assoc, Int.mul_comm q.sign, Int.mul_assoc]
    have : ((q.gcd (((q.gcd p : Nat) : Int) * c) : Nat) : Int) = ((q.gcd p : Nat) : Int) := by rw [← hc]
    rw [this]
    exact Int.mul_ediv_cancel_left _ (by omega)
  rw [h2] at this
  rcases Int.mul_eq_zero.1 this with h3 | h3
  · exact hq (Int.sign_eq_zero_iff_zero.1 h3)
  · subst h3; rw [Int.mul_zero] at hc; exact hp hc
theorem block_ok {n : Nat} {m : api_Model} (hm : ModOk n m) (hn : n ≤ 1000000) (sh : List api_Point) {x y how : Int} (hx : x.natAbs ≤ 1000000) (hy : y.natAbs ≤ 1000000) (hh : 0 ≤ how ∧ how ≤ 1000000000) (b : Bool) :
    ∃ r, F_gantryref15_block m sh x y how b = some r ∧ ModOk (n + 3) r ∧ r.dofs.length = m.dofs.length + (if b then 3 else 2) ∧ r.parts.length = m.parts.length + 1 := by
  have hd := hm.nd
  have hp := hm.np
  have hr := hm.nr
  have a1 := mod_bd (a := how) (m := 3) hh.1 (by omega)
  have a2 := mod_bd (a := how / 3) (m := 3) (by omega) (by omega)
  have a3 := mod_bd (a := how / 9) (m := 4) (by omega) (by omega)
  have a4 := mod_bd (a := how / 36) (m := 3) (by omega) (by omega)
  obtain ⟨q1, b1, b1e, b1b⟩ := qof_bd (k := 8) (p := 1) (q := 1 + how % 3) (by omega) (by decide) (by omega) (by omega)
  obtain ⟨q2, b2, _, b2b⟩ := qof_bd (k := 8) (p := -(1 + how / 3 % 3)) (q := 8) (by omega) (by omega) (by decide) (by omega)
  obtain ⟨q3, b3, b3b⟩ := num_ok (n := x) (by omega)
  obtain ⟨q4, b4, b4b⟩ := num_ok (n := y) (by omega)
  obtain ⟨q5, b5, _, b5b⟩ := qof_bd (k := 8) (p := how / 9 % 4) (q := 2) (by omega) (by omega) (by decide) (by omega)
  obtain ⟨q6, b6, _, b6b⟩ := qof_bd (k := 8) (p := how / 36 % 3) (q := 2) (by omega) (by omega) (by decide) (by omega)
  obtain ⟨q7, b7, b7b⟩ := num_ok (n := 1) (by decide)
  obtain ⟨q8, b8, b8e, b8b⟩ := qof_bd (k := 8) (p := 2) (q := 1) (by omega) (by decide) (by decide) (by omega)
  have hq1 : q1 ≠ 0 := by rw [b1e]; exact div_ne (by omega) (by omega)
  have hq8 : q8 ≠ 0 := by rw [b8e]; exact div_ne (by omega) (by omega)
  unfold F_gantryref15_block
  rw [chr_ok hh.1 (by omega), oB, ckO (by omega), oB, b1, oB, chq_ok hh.1 (by omega) (by omega), oB, chr_ok (by omega) (by omega), oB, ckO (by omega), oB, ckO (by omega), oB, b2, oB, b3, oB, b4, oB, chq_ok hh.1 (by omega) (by omega), oB, chr_ok (by omega) (by omega), oB, b5, oB,
    chq_ok hh.1 (by omega) (by omega), oB, chr_ok (by omega) (by omega), oB, b6, oB, apL_ok (by simp; omega), oB, b7, oB, ckO (by omega), oB, oB]
  have hdofs : ∀ d ∈ m.dofs ++ [(⟨q1, 0, false, 0, 0⟩ : api_Dof), ⟨q1, q2, false, 0, 0⟩], DofOk d := by
    intro d hd
    rcases List.mem_append.1 hd with h | h
    · exact hm.dofs d h
    · simp only [List.mem_cons, List.not_mem_nil, or_false] at h
      rcases h with rfl | rfl
      · exact ⟨b1b, hq1, Bd.zero.mono (by omega)⟩
      · exact ⟨b1b, hq1, b2b⟩
  cases b with
  | true =>
    rw [cT0, b8, oB, apL_ok (by simp; omega), oB, ckO (by omega), oB, oB, apL_ok (by simp), oB, apL_ok (by simp; omega), oB]
    refine ⟨_, rfl, ⟨fun d hd => ?_, by simp; omega, by simp; omega, by show m.ropes.length ≤ _; omega, fun p hp => ?_⟩, by simp, by simp⟩
    · rcases List.mem_append.1 hd with h | h
      · exact hdofs d h
      · rw [List.mem_singleton.1 h]; exact ⟨b8b, hq8, Bd.zero.mono (by omega)⟩
    · rcases List.mem_append.1 hp with h | h
      · exact hm.home p h
      · rw [List.mem_singleton.1 h]; exact b4b.mono (by omega)
  | false =>
    rw [cF0, apL_ok (by simp; omega), oB]
    refine ⟨_, rfl, ⟨hdofs, by simp; omega, by simp; omega, by show m.ropes.length ≤ _; omega, fun p hp => ?_⟩, by simp, by simp⟩
    rcases List.mem_append.1 hp with h | h
    · exact hm.home p h
    · rw [List.mem_singleton.1 h]; exact b4b.mono (by omega)
theorem shape_ok {x : Int} (hx : -9223372036854775808 ≤ x ∧ x ≤ 9223372036854775807) : ∃ r, F_gantryref15_shape x = some r ∧ 0 ≤ r.2 ∧ r.2 ≤ 2 := by
  unfold F_gantryref15_shape
  obtain ⟨k, h1, h2, h3⟩ := Around_ok hx (m := 6) (by omega)
  rw [h1, oB]
  by_cases c0 : k = 0
  · rw [qT c0, cT0]; exact ⟨_, rfl, by decide, by decide⟩
  rw [qF c0, cF0]
  by_cases c1 : k = 1
  · rw [qT c1, cT0]; exact ⟨_, rfl, by decide, by decide⟩
  rw [qF c1, cF0]
  by_cases c2 : k = 2
  · rw [qT c2, cT0]; exact ⟨_, rfl, by decide, by decide⟩
  rw [qF c2, cF0]
  by_cases c3 : k = 3
  · rw [qT c3, cT0]; exact ⟨_, rfl, by decide, by decide⟩
  rw [qF c3, cF0]
  by_cases c4 : k = 4
  · rw [qT c4, cT0]; exact ⟨_, rfl, by decide, by decide⟩
  rw [qF c4, cF0]
  exact ⟨_, rfl, by decide, by decide⟩
theorem train_ok {n : Nat} {m : api_Model} (hm : ModOk n m) (hn : n ≤ 1000000) {a : Int} (ha : 0 ≤ a ∧ a ≤ 1000000000) : ∃ r, F_gantryref15_train m a = some r ∧ ModOk (n + 3) r ∧ r.parts.length = m.parts.length + 2 ∧ r.dofs.length = m.dofs.length + 1 := by
  have hd := hm.nd
  have hp := hm.np
  have hr := hm.nr
  have a3 := mod_bd (a := a) (m := 3) ha.1 (by omega)
  have a2 := mod_bd (a := a) (m := 2) ha.1 (by omega)
  have a4 := mod_bd (a := a) (m := 4) ha.1 (by omega)
  obtain ⟨q1, b1, b1e, b1b⟩ := qof_bd (k := 8) (p := 1) (q := 2) (by omega) (by decide) (by decide) (by omega)
  obtain ⟨q2, b2, b2b⟩ := num_ok (n := -1) (by decide)
  obtain ⟨q3, b3, b3b⟩ := num_ok (n := 3) (by decide)
  obtain ⟨s1, c1, _⟩ := shape_ok (x := 1) (by omega)
  obtain ⟨s5, c5, _⟩ := shape_ok (x := 5) (by omega)
  obtain ⟨q4, b4, b4b⟩ := num_ok (n := 22) (by decide)
  obtain ⟨q5, b5, b5b⟩ := num_ok (n := 1) (by decide)
  obtain ⟨q6, b6, _, b6b⟩ := qof_bd (k := 8) (p := a % 3) (q := 2) (by omega) (by omega) (by decide) (by omega)
  obtain ⟨q7, b7, b7b⟩ := num_ok (n := 32) (by decide)
  obtain ⟨q8, b8, b8b⟩ := num_ok (n := 2) (by decide)
  obtain ⟨q9, b9, _, b9b⟩ := qof_bd (k := 8) (p := 1 + a % 2) (q := 2) (by omega) (by omega) (by decide) (by omega)
  obtain ⟨q10, b10, _, b10b⟩ := qof_bd (k := 8) (p := a % 4) (q := 2) (by omega) (by omega) (by decide) (by omega)
  have hq1 : q1 ≠ 0 := by rw [b1e]; exact div_ne (by omega) (by omega)
  unfold F_gantryref15_train
  rw [b1, oB, b2, oB, b3, oB, apL_ok (by simp; omega), oB, c1, oB, c5, oB, b4, oB, b5, oB, chr_ok ha.1 (by omega), oB, b6, oB, apL_ok (by simp; omega), oB, b7, oB, b8, oB, chr_ok ha.1 (by omega), oB, ckO (by omega), oB, b9, oB, chr_ok ha.1 (by omega), oB, b10, oB, oB, b6, oB, apL_ok (by simp; omega), oB]
  refine ⟨_, rfl, ⟨fun d hd => ?_, by simp; omega, by simp; omega, by show m.ropes.length ≤ _; omega, fun p hp => ?_⟩, by simp, by simp⟩
  · rcases List.mem_append.1 hd with h | h
    · exact hm.dofs d h
    · rw [List.mem_singleton.1 h]; exact ⟨b1b, hq1, Bd.zero.mono (by omega)⟩
  · rcases List.mem_append.1 hp with h | h
    · rcases List.mem_append.1 h with h | h
      · exact hm.home p h
      · rw [List.mem_singleton.1 h]; exact Bd.zero.mono (by omega)
    · rw [List.mem_singleton.1 h]; exact b8b.mono (by omega)
end Go.Proofs.YtkjnngaceacmdaaGreat
