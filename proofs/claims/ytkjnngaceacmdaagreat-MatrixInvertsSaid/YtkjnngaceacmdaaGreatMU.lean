/- Determinants of products, ranks of turned matrices, elimination without a search for pivots. -/
import Derived.Test.YtkjnngaceacmdaaGreatMT
import Derived.Test.YtkjnngaceacmdaaGreatMN
import Derived.Test.YtkjnngaceacmdaaGreatMP
set_option linter.unusedVariables false
namespace Go.Proofs.YtkjnngaceacmdaaGreat

theorem sgn0' : sgn 0 = 1 := rfl
def unitM (i c : Nat) : Rat := if i = c then 1 else 0
theorem pat_ge {h k : Nat} {s : RS} (hs : RJ h k s) : ∀ i, i < s.ps.length → i ≤ pat s.ps i
  | 0, _ => Nat.zero_le _
  | i + 1, hi => by
    have := pat_ge hs i (by omega)
    have := hs.inc i (i + 1) (by omega) hi
    omega
theorem rank_le_w {h k : Nat} {s : RS} (hs : RJ h k s) : s.ps.length ≤ k := by
  by_cases h0 : s.ps.length = 0
  · omega
  · have h1 := pat_ge hs (s.ps.length - 1) (by omega)
    have h2 := hs.pk (s.ps.length - 1) (by omega)
    omega
def rank (g : Nat → Nat → Rat) (h w : Nat) : Nat := (red g h w).ps.length
def est (g : Nat → Nat → Rat) (k i c : Nat) : Rat := if k < i then g i c - g i k / g k k * g k c else g i c
def ela (g : Nat → Nat → Rat) : Nat → Nat → Nat → Rat
  | 0 => g
  | k + 1 => est (ela g k) k
theorem ela_low {g : Nat → Nat → Rat} {i c : Nat} : ∀ k, i ≤ k → ela g k i c = ela g i i c
  | k, h => by
    by_cases he : k = i
    · rw [he]
    · obtain ⟨k', rfl⟩ : ∃ k', k = k' + 1 := ⟨k - 1, by omega⟩
      rw [ela, est, if_neg (by omega)]
      exact ela_low k' (by omega)
theorem ela_zero {g : Nat → Nat → Rat} : ∀ k, (∀ j, j < k → ela g j j j ≠ 0) → ∀ i c, c < k → c < i → ela g k i c = 0
  | 0, _, i, c, h, _ => absurd h (by omega)
  | k + 1, hp, i, c, hc, hci => by
    rw [ela, est]
    have ih := ela_zero k fun j hj => hp j (by omega)
    split
    · rename_i h
      by_cases he : c = k
      · subst he
        have := hp c (by omega)
        rw [Rat.div_def, Rat.mul_assoc, Rat.inv_mul_cancel _ this]; grind
      · rw [ih i c (by omega) (by omega), ih k c (by omega) (by omega)]; grind
    · rename_i h
      exact ih i c (by omega) (by omega)
/-- One step, row by row. -/
def esr (g : Nat → Nat → Rat) (k j i c : Nat) : Rat := if k < i ∧ i < j then g i c - g i k / g k k * g k c else g i c
theorem Alt.esr0 {h : Nat} {D : (Nat → Nat → Rat) → Rat} (a : Alt h D) {g : Nat → Nat → Rat} {k : Nat} : ∀ j, j ≤ h → D (esr g k j) = D g
  | 0, _ => a.cong _ _ fun i _ => by
    funext c
    exact if_neg (by omega)
  | j + 1, hj => by
    refine Eq.trans ?_ (Alt.esr0 (k := k) a j (by omega))
    by_cases he : k < j
    · refine Eq.trans ?_ (a.add (g := esr g k j) (b := g j k / g k k) (show j < h by omega) (show k < h by omega) (by omega))
      refine a.cong _ _ fun i _ => ?_
      funext c
      by_cases h1 : i = j
      · subst h1
        rw [upd_same]
        unfold esr
        rw [if_pos ⟨he, by omega⟩, if_neg (by omega), if_neg (by omega)]
      · rw [upd_ne h1]
        unfold esr
        by_cases h2 : k < i ∧ i < j
        · rw [if_pos ⟨h2.1, by omega⟩, if_pos h2]
        · rw [if_neg (by omega), if_neg h2]
    · refine a.cong _ _ fun i _ => ?_
      funext c
      unfold esr
      rw [if_neg (by omega), if_neg (by omega)]
theorem Alt.ela0 {h : Nat} {D : (Nat → Nat → Rat) → Rat} (a : Alt h D) {g : Nat → Nat → Rat} : ∀ k, D (ela g k) = D g
  | 0 => rfl
  | k + 1 => by
    refine Eq.trans ?_ (Alt.ela0 a k)
    rw [← a.esr0 (g := ela g k) (k := k) h (Nat.le_refl _)]
    refine a.cong _ _ fun i hi => ?_
    funext c
    unfold esr
    rw [ela, est]
    by_cases h1 : k < i
    · rw [if_pos h1, if_pos ⟨h1, hi⟩]
    · rw [if_neg h1, if_neg (by omega)]
def pm (f : Nat → Rat) : Nat → Rat
  | 0 => 1
  | n + 1 => pm f n * f n
theorem pm_first (f : Nat → Rat) : ∀ n, pm f (n + 1) = f 0 * pm (fun i => f (i + 1)) n
  | 0 => by simp only [pm]; grind
  | n + 1 => by
    rw [pm, pm_first f n]
    simp only [pm]; grind
theorem pm_congr {f g : Nat → Rat} : ∀ {n : Nat}, (∀ i, i < n → f i = g i) → pm f n = pm g n
  | 0, _ => rfl
  | n + 1, h => by
    simp only [pm]
    rw [pm_congr fun i hi => h i (by omega), h n (by omega)]
/-- A column of 0. -/
theorem dt_col0 : ∀ {n : Nat} {g : Nat → Nat → Rat} {c : Nat}, c < n → (∀ i, i < n → g i c = 0) → dt n g = 0
  | 0, _, _, h, _ => absurd h (by omega)
  | n + 1, g, c, hc, h => by
    rw [dt]
    refine sm_zero fun k hk => ?_
    by_cases he : k = c
    · rw [he, h 0 (by omega)]; grind
    · have : dt n (mnr g k) = 0 := by
        by_cases h1 : c < k
        · refine dt_col0 (c := c) (by omega) fun i hi => ?_
          unfold mnr skp
          rw [if_pos h1]; exact h (i + 1) (by omega)
        · refine dt_col0 (c := c - 1) (by omega) fun i hi => ?_
          unfold mnr skp
          rw [if_neg (by omega), show c - 1 + 1 = c by omega]; exact h (i + 1) (by omega)
      rw [this]; grind
theorem dt_tri : ∀ {n : Nat} {g : Nat → Nat → Rat}, (∀ i c, i < n → c < i → g i c = 0) → dt n g = pm (fun i => g i i) n
  | 0, _, _ => rfl
  | n + 1, g, h => by
    rw [dt, sm_one (p := 0) (by omega) fun k hk hne => by
      rw [dt_col0 (g := mnr g k) (c := 0) (by omega) fun i hi => by
        unfold mnr skp
        rw [if_pos (by omega)]; exact h (i + 1) 0 (by omega) (by omega)]
      grind, dt_tri (g := mnr g 0) fun i c hi hc => by
        unfold mnr skp
        rw [if_neg (by omega)]; exact h (i + 1) (c + 1) (by omega) (by omega), pm_first, sgn0']
    rw [pm_congr (f := fun i => mnr g 0 i i) (g := fun i => g (i + 1) (i + 1)) fun i _ => by unfold mnr skp; rw [if_neg (by omega)]]
    grind
/-- The determinant of the first rows and columns: the product of the pivots. -/
theorem dt_pivots {g : Nat → Nat → Rat} {m : Nat} (hp : ∀ j, j + 1 < m → ela g j j j ≠ 0) : dt m g = pm (fun j => ela g j j j) m := by
  rw [← (dt_alt m).ela0 (g := g) (m - 1), dt_tri fun i c hi hc => ela_zero (m - 1) (fun j hj => hp j (by omega)) i c (by omega) hc]
  exact pm_congr fun i hi => ela_low (m - 1) (by omega)
theorem pm_pos {f : Nat → Rat} : ∀ {n : Nat}, (∀ i, i < n → 0 < f i) → 0 < pm f n
  | 0, _ => by show (0 : Rat) < 1; decide
  | n + 1, h => by
    simp only [pm]
    exact Rat.mul_pos (pm_pos fun i hi => h i (by omega)) (h n (by omega))
/-- All pivots are positive. -/
def posE (g : Nat → Nat → Rat) (n : Nat) : Prop := ∀ k, k < n → 0 < ela g k k k
/-- Sylvester's criterion. -/
theorem posE_dt {g : Nat → Nat → Rat} {n : Nat} (h : posE g n) : 0 < dt (n + 1) g ↔ 0 < ela g n n n := by
  have e := dt_pivots (g := g) (m := n + 1) fun j hj => by have := h j (by omega); grind
  have hp : 0 < pm (fun j => ela g j j j) n := pm_pos fun i hi => h i hi
  simp only [pm] at e
  rw [e]
  constructor
  · intro hh
    refine Classical.byContradiction fun hn => ?_
    have h1 : ela g n n n ≤ 0 := by grind
    have : pm (fun j => ela g j j j) n * ela g n n n ≤ 0 := by
      have := Rat.mul_le_mul_of_nonneg_left h1 (Rat.le_of_lt hp)
      grind
    grind
  · exact fun hh => Rat.mul_pos hp hh
end Go.Proofs.YtkjnngaceacmdaaGreat
