/- Numbers that stay small; reads of lists; what the generators of small numbers give. -/
import Derived.Test.YtkjnngaceacmdaaGreatPR
set_option linter.unusedVariables false
namespace Go.Proofs.YtkjnngaceacmdaaGreat

theorem rdG {α : Type} {xs : List α} {i : Nat} {x : α} (h : xs[i]? = some x) : rdL xs (i : Int) = some x := by
  unfold rdL
  rw [if_pos (by omega)]
  simpa using h
theorem rdM {α : Type} {xs : List α} {i : Nat} (h : i < xs.length) : ∃ x, x ∈ xs ∧ xs[i]? = some x ∧ rdL xs (i : Int) = some x :=
  ⟨xs[i], List.getElem_mem h, List.getElem?_eq_getElem h, rdG (List.getElem?_eq_getElem h)⟩
theorem stG {α : Type} {xs : List α} {i : Nat} {v : α} (h : i < xs.length) : stL xs (i : Int) v = some (xs.set i v) := by
  unfold stL
  rw [if_pos (by constructor; omega; simpa using h)]
  simp
/-- Numbers that a machine's integer holds. -/
def I64s (xs : List Int) : Prop := ∀ x ∈ xs, -9223372036854775808 ≤ x ∧ x ≤ 9223372036854775807
/-- A number whose parts are below a power of two. -/
def Bd (n : Nat) (q : Rat) : Prop := q.num.natAbs < 2 ^ n ∧ q.den < 2 ^ n
theorem Bd.mono {m n : Nat} {q : Rat} (h : Bd m q) (hn : m ≤ n) : Bd n q :=
  ⟨Nat.lt_of_lt_of_le h.1 (Nat.pow_le_pow_right (by decide) hn), Nat.lt_of_lt_of_le h.2 (Nat.pow_le_pow_right (by decide) hn)⟩
theorem log2_le {a n : Nat} (h : a < 2 ^ n) (hn : n ≤ 1073741824) : a.log2 ≤ 1073741824 := by
  by_cases h0 : a = 0
  · subst h0; decide
  · have := (Nat.log2_lt h0).2 h
    omega
theorem Bd.qs {n : Nat} {q : Rat} (h : Bd n q) (hn : n ≤ 1073741824) : qs q = true := by
  unfold Go.Proofs.YtkjnngaceacmdaaGreat.qs
  rw [Bool.and_eq_true, Nat.ble_eq, Nat.ble_eq]
  exact ⟨log2_le h.1 hn, log2_le h.2 hn⟩
theorem divInt_num_le (n : Int) {d : Int} (hd : d ≠ 0) : (Rat.divInt n d).num.natAbs ≤ n.natAbs := by
  rw [Rat.num_divInt]
  have h : (d.sign * n / ((d.gcd n : Nat) : Int)).natAbs ≤ (d.sign * n).natAbs := Int.natAbs_ediv_le_natAbs _ _
  rw [Int.natAbs_mul, Int.natAbs_sign_of_ne_zero hd, Nat.one_mul] at h
  exact h
theorem divInt_den_le (n : Int) {d : Int} (hd : d ≠ 0) : (Rat.divInt n d).den ≤ d.natAbs := by
  rw [Rat.den_divInt, if_neg hd]
  exact Nat.div_le_self _ _
theorem Bd.divInt {k : Nat} {n d : Int} (hd : d ≠ 0) (h1 : n.natAbs < 2 ^ k) (h2 : d.natAbs < 2 ^ k) : Bd k (Rat.divInt n d) :=
  ⟨Nat.lt_of_le_of_lt (divInt_num_le n hd) h1, Nat.lt_of_le_of_lt (divInt_den_le n hd) h2⟩
theorem Bd.zero : Bd 1 0 := by constructor <;> decide
theorem mul_lt2 {a b m n : Nat} (h1 : a < 2 ^ m) (h2 : b < 2 ^ n) : a * b < 2 ^ (m + n) := by
  rw [Nat.pow_add]
  exact Nat.mul_lt_mul'' h1 h2
theorem Bd.mul {m n : Nat} {a b : Rat} (ha : Bd m a) (hb : Bd n b) : Bd (m + n) (a * b) := by
  rw [Mul_is]
  refine Bd.divInt (Int.mul_ne_zero (by have := a.den_nz; omega) (by have := b.den_nz; omega)) ?_ ?_
  · rw [Int.natAbs_mul]; exact mul_lt2 ha.1 hb.1
  · rw [Int.natAbs_mul, Int.natAbs_natCast, Int.natAbs_natCast]; exact mul_lt2 ha.2 hb.2
theorem Bd.add {m n : Nat} {a b : Rat} (ha : Bd m a) (hb : Bd n b) : Bd (m + n + 1) (a + b) := by
  rw [Add_is]
  have h1 := mul_lt2 ha.1 hb.2
  have h2 := mul_lt2 hb.1 ha.2
  have h3 := mul_lt2 ha.2 hb.2
  rw [Nat.add_comm n m] at h2
  refine Bd.divInt (Int.mul_ne_zero (by have := a.den_nz; omega) (by have := b.den_nz; omega)) ?_ ?_
  · have := Int.natAbs_add_le (a.num * b.den) (b.num * a.den)
    rw [Int.natAbs_mul, Int.natAbs_mul, Int.natAbs_natCast, Int.natAbs_natCast] at this
    rw [Nat.pow_succ]
    omega
  · rw [Int.natAbs_mul, Int.natAbs_natCast, Int.natAbs_natCast, Nat.pow_succ]; omega
theorem Bd.neg {n : Nat} {a : Rat} (ha : Bd n a) : Bd n (-a) := by
  unfold Bd
  rw [Rat.neg_num, Rat.neg_den, Int.natAbs_neg]; exact ha
theorem Bd.sub {m n : Nat} {a b : Rat} (ha : Bd m a) (hb : Bd n b) : Bd (m + n + 1) (a - b) := by
  rw [Rat.sub_eq_add_neg]; exact ha.add hb.neg
theorem Bd.inv {n : Nat} {b : Rat} (hb : Bd n b) (hn : 1 ≤ n) : Bd n b⁻¹ := by
  by_cases h : b.num = 0
  · rw [Rat.num_eq_zero.1 h, Rat.inv_zero]; exact Bd.zero.mono hn
  · rw [inv_num h]
    exact Bd.divInt h (by simpa using hb.2) hb.1
theorem Bd.pos {n : Nat} {q : Rat} (h : Bd n q) : 1 ≤ n := by
  rcases Nat.eq_zero_or_pos n with h0 | h0
  · subst h0
    have := h.2
    have := q.den_nz
    omega
  · exact h0
theorem Bd.div {m n : Nat} {a b : Rat} (ha : Bd m a) (hb : Bd n b) : Bd (m + n) (a / b) := by
  rw [Rat.div_def]; exact ha.mul (hb.inv hb.pos)
theorem qadd_ok {m n : Nat} {a b : Rat} (ha : Bd m a) (hb : Bd n b) (hm : m ≤ 1073741824) (hn : n ≤ 1073741824) : qadd a b = some (a + b) := by
  unfold qadd; rw [ha.qs hm, hb.qs hn]; rfl
theorem qsub_ok {m n : Nat} {a b : Rat} (ha : Bd m a) (hb : Bd n b) (hm : m ≤ 1073741824) (hn : n ≤ 1073741824) : qsub a b = some (a - b) := by
  unfold qsub; rw [ha.qs hm, hb.qs hn]; rfl
theorem qmul_ok {m n : Nat} {a b : Rat} (ha : Bd m a) (hb : Bd n b) (hm : m ≤ 1073741824) (hn : n ≤ 1073741824) : qmul a b = some (a * b) := by
  unfold qmul; rw [ha.qs hm, hb.qs hn]; rfl
theorem qdiv_ok {m n : Nat} {a b : Rat} (ha : Bd m a) (hb : Bd n b) (hm : m ≤ 1073741824) (hn : n ≤ 1073741824) : qdiv a b = some (a / b) := by
  unfold qdiv; rw [ha.qs hm, hb.qs hn]; rfl
theorem qsame_ok {m n : Nat} {a b : Rat} (ha : Bd m a) (hb : Bd n b) (hm : m ≤ 1073741824) (hn : n ≤ 1073741824) : qsame a b = some (decide (a = b)) := by
  unfold qsame; rw [ha.qs hm, hb.qs hn]; rfl
theorem qneg_ok {m : Nat} {a : Rat} (ha : Bd m a) (hm : m ≤ 1073741824) : qneg a = some (-a) := by
  unfold qneg; rw [ha.qs hm]; rfl
theorem qsgn_ok {m : Nat} {a : Rat} (ha : Bd m a) (hm : m ≤ 1073741824) : qsgn a = some a.num.sign := by
  unfold qsgn; rw [ha.qs hm]; rfl
theorem qof_ok {p q : Int} (hp : -9223372036854775808 ≤ p ∧ p ≤ 9223372036854775807) (hq : -9223372036854775808 ≤ q ∧ q ≤ 9223372036854775807) : qof p q = some ((p : Rat) / q) := by
  unfold qof; rw [ckO hp, ckO hq]; rfl
theorem Bd.of {k : Nat} {p q : Int} (hq : q ≠ 0) (h1 : p.natAbs < 2 ^ k) (h2 : q.natAbs < 2 ^ k) : Bd k ((p : Rat) / q) := by
  rw [← Rat.divInt_eq_div]; exact Bd.divInt hq h1 h2
/-- A fraction of small whole numbers. -/
theorem qof_bd {k : Nat} {p q : Int} (hq : q ≠ 0) (h1 : p.natAbs < 2 ^ k) (h2 : q.natAbs < 2 ^ k) (hk : k ≤ 62) : ∃ r, qof p q = some r ∧ r = (p : Rat) / q ∧ Bd k r := by
  have : 2 ^ k ≤ 2 ^ 62 := Nat.pow_le_pow_right (by decide) hk
  refine ⟨_, qof_ok (by omega) (by omega), rfl, Bd.of hq h1 h2⟩
end Go.Proofs.YtkjnngaceacmdaaGreat
