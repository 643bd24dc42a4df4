/- More of the reduced rows: solutions are kept, and how the pivots lie. -/
import Derived.Test.YtkjnngaceacmdaaGreatMC
set_option linter.unusedVariables false
namespace Go.Proofs.YtkjnngaceacmdaaGreat

theorem sm_lin (f g : Nat → Rat) (a : Rat) : ∀ n, sm (fun c => f c - a * g c) n = sm f n - a * sm g n
  | 0 => by simp only [sm]; grind
  | n + 1 => by
    have ih := sm_lin f g a n
    simp only [sm]
    rw [ih]; grind
theorem sm_scale (f : Nat → Rat) (a : Rat) : ∀ n, sm (fun c => f c * a) n = sm f n * a
  | 0 => by simp only [sm]; grind
  | n + 1 => by
    have ih := sm_scale f a n
    simp only [sm]
    rw [ih]; grind
theorem sm_congr {f g : Nat → Rat} : ∀ {n : Nat}, (∀ i, i < n → f i = g i) → sm f n = sm g n
  | 0, _ => rfl
  | n + 1, h => by
    simp only [sm]
    rw [sm_congr fun i hi => h i (by omega), h n (by omega)]
theorem sm_zero {f : Nat → Rat} {n : Nat} (h : ∀ i, i < n → f i = 0) : sm f n = 0 := by
  rw [sm_congr (g := fun _ => 0) h]
  induction n with
  | zero => rfl
  | succ n ih => simp only [sm]; rw [ih fun i hi => h i (by omega)]; grind
theorem sm_one {f : Nat → Rat} {n p : Nat} (hp : p < n) (h : ∀ i, i < n → i ≠ p → f i = 0) : sm f n = f p := by
  induction n with
  | zero => omega
  | succ n ih =>
    simp only [sm]
    by_cases he : p = n
    · rw [sm_zero fun i hi => h i (by omega) (by omega), he]; grind
    · rw [ih (by omega) fun i hi hne => h i (by omega) hne, h n (by omega) (by omega)]; grind
theorem sm_add (f g : Nat → Rat) : ∀ n, sm (fun c => f c + g c) n = sm f n + sm g n
  | 0 => by simp only [sm]; grind
  | n + 1 => by
    have ih := sm_add f g n
    simp only [sm]
    rw [ih]; grind
/-- How the pivots lie, whatever the numbers' sizes. -/
structure RJ (h k : Nat) (s : RS) : Prop where
  ph : s.ps.length ≤ h
  pk : ∀ i, i < s.ps.length → pat s.ps i < k
  z : ∀ i c, s.ps.length ≤ i → i < h → c < k → s.g i c = 0
  one : ∀ i i', i < s.ps.length → i' < h → s.g i' (pat s.ps i) = if i' = i then 1 else 0
  lead : ∀ i c, i < s.ps.length → c < pat s.ps i → s.g i c = 0
  inc : ∀ i j, i < j → j < s.ps.length → pat s.ps i < pat s.ps j
  gap : ∀ c, c < k → c ∉ s.ps → ∀ i, i < s.ps.length → c < pat s.ps i → s.g i c = 0
theorem pat_old {ps : List Nat} {k i : Nat} (h : i < ps.length) : pat (ps ++ [k]) i = pat ps i := by
  unfold pat
  rw [List.getD_eq_getElem?_getD, List.getD_eq_getElem?_getD, List.getElem?_append_left h]
theorem pat_new {ps : List Nat} {k : Nat} : pat (ps ++ [k]) ps.length = k := by
  unfold pat
  rw [List.getD_eq_getElem?_getD, List.getElem?_append_right (Nat.le_refl _), Nat.sub_self]; rfl
theorem rdStep_J {h k : Nat} {s : RS} (hs : RJ h k s) : RJ h (k + 1) (rdStep h k s) := by
  have hp := piv_le (g := s.g) (k := k) (h - s.ps.length) s.ps.length
  have hph := hs.ph
  unfold rdStep
  split
  · rename_i hat
    refine ⟨hs.ph, fun i hi => Nat.lt_succ_of_lt (hs.pk i hi), fun i c hi hh hc => ?_, hs.one, hs.lead, hs.inc, fun c _ _ i hi hlt => hs.lead i c hi hlt⟩
    by_cases he : c = k
    · subst he; exact piv_z (h - s.ps.length) s.ps.length i hi (by omega)
    · exact hs.z i c hi hh (by omega)
  · rename_i hat
    have hlt : piv s.g k (h - s.ps.length) s.ps.length < h := by omega
    have hne := piv_n (g := s.g) (k := k) (h - s.ps.length) s.ps.length (by omega)
    generalize ha : piv s.g k (h - s.ps.length) s.ps.length = at0 at *
    have hz : ∀ c, c < k → s.g at0 c = 0 := fun c hc => hs.z at0 c hp.1 hlt hc
    have hpr : ∀ c, c < k → pr s.g at0 k c = 0 := fun c hc => by unfold pr; rw [hz c hc, Rat.div_def, Rat.zero_mul]
    have hprk : pr s.g at0 k k = 1 := by unfold pr; rw [Rat.div_def, Rat.mul_inv_cancel _ hne]
    have hswz : ∀ i c, s.ps.length < i → i < h → c < k → swp s.g s.ps.length at0 i c = 0 := fun i c hi hih hc => by
      unfold swp
      rw [if_neg (by omega)]
      split
      · exact hs.z _ c (Nat.le_refl _) (by omega) hc
      · exact hs.z _ c (by omega) hih hc
    have hsw : ∀ i c, i < s.ps.length → swp s.g s.ps.length at0 i c = s.g i c := fun i c hi => by
      unfold swp
      rw [if_neg (by omega), if_neg (by omega)]
    have hlead : ∀ i c, i < s.ps.length + 1 → c < pat (s.ps ++ [k]) i → stp s.g s.ps.length at0 k i c = 0 := fun i c hi hc => by
      by_cases he : i = s.ps.length
      · subst he
        rw [pat_new] at hc
        unfold stp
        rw [if_pos rfl]; exact hpr c hc
      · have hi' : i < s.ps.length := by omega
        rw [pat_old hi'] at hc
        unfold stp
        rw [if_neg he, hsw i c hi', hsw i k hi', hs.lead i c hi' hc, hpr c (by have := hs.pk i hi'; omega)]
        grind
    refine ⟨by simp only [List.length_append, List.length_singleton]; omega, fun i hi => ?_, fun i c hi hh hc => ?_, fun i i' hi hi' => ?_, fun i c hi hc => hlead i c (by simpa using hi) hc, fun i j hij hj => ?_, fun c _ _ i hi hlt => hlead i c (by simpa using hi) hlt⟩
    · simp only [List.length_append, List.length_singleton] at hi
      by_cases he : i = s.ps.length
      · subst he; simp only [pat_new]; omega
      · simp only [pat_old (show i < s.ps.length by omega)]
        have := hs.pk i (by omega); omega
    · simp only [List.length_append, List.length_singleton] at hi
      show stp s.g s.ps.length at0 k i c = 0
      unfold stp
      rw [if_neg (by omega)]
      by_cases he : c = k
      · subst he
        rw [hprk, Rat.mul_one, Rat.sub_self]
      · rw [hswz i c (by omega) hh (by omega), hpr c (by omega)]
        grind
    · simp only [List.length_append, List.length_singleton] at hi
      show stp s.g s.ps.length at0 k i' (pat (s.ps ++ [k]) i) = _
      unfold stp
      by_cases he : i = s.ps.length
      · subst he
        rw [pat_new]
        by_cases e2 : i' = s.ps.length
        · rw [if_pos e2, if_pos e2, hprk]
        · rw [if_neg e2, if_neg e2, hprk, Rat.mul_one, Rat.sub_self]
      · have hi2 : i < s.ps.length := by omega
        rw [pat_old hi2, hpr _ (hs.pk i hi2)]
        by_cases e2 : i' = s.ps.length
        · rw [if_pos e2, if_neg (by omega)]
        · rw [if_neg e2]
          by_cases e3 : i' < s.ps.length
          · rw [hsw i' _ e3, hs.one i i' hi2 (by omega)]
            grind
          · rw [hswz i' _ (by omega) hi' (hs.pk i hi2), if_neg (by omega)]
            grind
    · simp only [List.length_append, List.length_singleton] at hj
      by_cases he : j = s.ps.length
      · subst he
        simp only [pat_new, pat_old (show i < s.ps.length by omega)]
        exact hs.pk i (by omega)
      · simp only [pat_old (show i < s.ps.length by omega), pat_old (show j < s.ps.length by omega)]
        exact hs.inc i j hij (by omega)
theorem red_J {g : Nat → Nat → Rat} {h : Nat} : ∀ k, RJ h k (red g h k)
  | 0 => ⟨Nat.zero_le _, fun i hi => absurd hi (by simp [red]), fun i c _ _ hc => absurd hc (by omega), fun i i' hi _ => absurd hi (by simp [red]), fun i c hi _ => absurd hi (by simp [red]), fun i j _ hj => absurd hj (by simp [red]), fun c hc => absurd hc (by omega)⟩
  | k + 1 => rdStep_J (red_J k)
/-- Further columns change nothing in the first ones. -/
theorem piv_congr {g g' : Nat → Nat → Rat} {k : Nat} (e : ∀ i, g i k = g' i k) : ∀ t i, piv g k t i = piv g' k t i
  | 0, _ => rfl
  | t + 1, i => by
    unfold piv
    rw [e i, piv_congr e t (i + 1)]
theorem red_agree {g g' : Nat → Nat → Rat} {h w : Nat} (e : ∀ i c, c < w → g i c = g' i c) : ∀ k, k ≤ w → (red g h k).ps = (red g' h k).ps ∧ ∀ i c, c < w → (red g h k).g i c = (red g' h k).g i c
  | 0, _ => ⟨rfl, e⟩
  | k + 1, hk => by
    obtain ⟨h1, h2⟩ := red_agree e k (by omega)
    simp only [red]
    generalize red g h k = s at *
    generalize red g' h k = s' at *
    unfold rdStep
    rw [← h1, ← piv_congr (g := s.g) (g' := s'.g) (k := k) (fun i => h2 i k (by omega))]
    split
    · exact ⟨h1, h2⟩
    · refine ⟨by simp only [h1], fun i c hc => ?_⟩
      simp only [stp, pr, swp]
      rw [h2 _ c hc, h2 _ k (by omega), h2 _ c hc, h2 _ k (by omega)]
end Go.Proofs.YtkjnngaceacmdaaGreat
