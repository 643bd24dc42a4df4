/- Determinants of products, ranks of turned matrices, elimination without a search for pivots. -/
import Derived.Test.YtkjnngaceacmdaaMT
import Derived.Test.YtkjnngaceacmdaaMN
import Derived.Test.YtkjnngaceacmdaaMP
set_option linter.unusedVariables false
namespace Go.Proofs.Ytkjnngaceacmdaa

theorem sgn0' : sgn 0 = 1 := rfl
def unitM (i c : Nat) : Rat := if i = c then 1 else 0
theorem dt_unit : ∀ n, dt n unitM = 1
  | 0 => rfl
  | n + 1 => by
    rw [dt, sm_one (p := 0) (by omega) fun k _ hk => by unfold unitM; rw [if_neg (fun e => hk e.symm)]; grind]
    have e : dt n (mnr unitM 0) = dt n unitM := dt_congr fun i c _ _ => by
      unfold mnr unitM skp
      rw [if_neg (Nat.not_lt_zero c)]
      by_cases h : i = c
      · rw [if_pos h, if_pos (by omega)]
      · rw [if_neg h, if_neg (by omega)]
    rw [e, dt_unit n, sgn0']
    unfold unitM
    rw [if_pos rfl]; grind
theorem red_d_ne {g : Nat → Nat → Rat} {h : Nat} : ∀ k, (red g h k).d ≠ 0
  | 0 => by simp only [red]; decide
  | k + 1 => by
    have ih := red_d_ne (g := g) (h := h) k
    have hl := (red_J (g := g) (h := h) k).ph
    simp only [red]
    generalize red g h k = s at *
    unfold rdStep
    split
    · exact ih
    · rename_i hat
      have hp := piv_le (g := s.g) (k := k) (h - s.ps.length) s.ps.length
      have hne := piv_n (g := s.g) (k := k) (h - s.ps.length) s.ps.length (by omega)
      simp only
      intro hz
      rcases Rat.mul_eq_zero.1 hz with h1 | h1
      · split at h1
        · exact ih h1
        · exact ih (by grind)
      · exact hne h1
theorem pat_ge {h k : Nat} {s : RS} (hs : RJ h k s) : ∀ i, i < s.ps.length → i ≤ pat s.ps i
  | 0, _ => Nat.zero_le _
  | i + 1, hi => by
    have := pat_ge hs i (by omega)
    have := hs.inc i (i + 1) (by omega) hi
    omega
theorem pat_room {h k : Nat} {s : RS} (hs : RJ h k s) : ∀ t i, i + t + 1 = s.ps.length → pat s.ps i + t < k
  | 0, i, hi => hs.pk i (by omega)
  | t + 1, i, hi => by
    have := pat_room hs t (i + 1) (by omega)
    have := hs.inc i (i + 1) (by omega) (by omega)
    omega
/-- As many pivots as columns: the pivots are the columns. -/
theorem pat_full {h k : Nat} {s : RS} (hs : RJ h k s) (hf : s.ps.length = k) {i : Nat} (hi : i < k) : pat s.ps i = i := by
  have h1 := pat_ge hs i (by omega)
  have h2 := pat_room hs (k - 1 - i) i (by omega)
  omega
theorem rank_le_w {h k : Nat} {s : RS} (hs : RJ h k s) : s.ps.length ≤ k := by
  by_cases h0 : s.ps.length = 0
  · omega
  · have h1 := pat_ge hs (s.ps.length - 1) (by omega)
    have h2 := hs.pk (s.ps.length - 1) (by omega)
    omega
theorem full_unit {h k : Nat} {s : RS} (hs : RJ h k s) (hf : s.ps.length = k) {i c : Nat} (hi : i < h) (hc : c < k) : s.g i c = if i = c then 1 else 0 := by
  have := hs.one c i (by omega) hi
  rw [pat_full hs hf hc] at this
  exact this
/-- The determinant, by what was done to the rows. -/
def detR (g : Nat → Nat → Rat) (n : Nat) : Rat := if (red g n n).ps.length = n then (red g n n).d else 0
theorem dt_red {g : Nat → Nat → Rat} {n : Nat} : dt n g = detR g n := by
  have hJ := red_J (g := g) (h := n) n
  unfold detR
  rw [(dt_alt n).red0 (g := g) n]
  split
  · rename_i hf
    rw [dt_congr (g' := unitM) fun i c hi hc => full_unit hJ hf hi hc, dt_unit]; grind
  · rename_i hf
    have hlt : (red g n n).ps.length < n := by have := hJ.ph; omega
    rw [dt_congr (g' := fun i c => if c < n then (red g n n).g i c else 0) fun i c hi hc => by rw [if_pos hc], (dt_alt n).zero (i := n - 1) (by omega) ?_]
    · grind
    · funext c
      split
      · rename_i hc
        exact hJ.z (n - 1) c (by omega) (by omega) hc
      · rfl
def rank (g : Nat → Nat → Rat) (h w : Nat) : Nat := (red g h w).ps.length
/-- Fewer pivots than columns: there is a column without. -/
theorem col_free {h w : Nat} {s : RS} (hs : RJ h w s) (hlt : s.ps.length < w) : ∃ x, x < w ∧ x ∉ s.ps := by
  obtain ⟨m, h1, h2, h3⟩ := kerL_count hs w (Nat.le_refl _)
  refine Classical.byContradiction fun hno => ?_
  have : ∀ k, k ≤ w → (kerL s w k) = [] := by
    intro k
    induction k with
    | zero => intro _; rfl
    | succ k ih =>
      intro hk
      rw [kerL_succ, if_pos (Classical.byContradiction fun hn => hno ⟨k, by omega, hn⟩)]
      exact ih (by omega)
  rw [this w (Nat.le_refl _)] at h3
  simp only [List.length_nil] at h3
  omega
/-- Full rank: only 0 is in the kernel. -/
theorem rank_inj {g : Nat → Nat → Rat} {h w : Nat} (hf : rank g h w = w) {y : Nat → Rat} (hy : ∀ i, i < h → mulV g y w i = 0) {c : Nat} (hc : c < w) : y c = 0 := by
  have hJ := red_J (g := g) (h := h) w
  have h1 := (red_sol (g := g) (y := y) (n := w) (h := h) w).2 hy
  have hch : c < h := by have := hJ.ph; unfold rank at hf; omega
  have := h1 c hch
  unfold rd at this
  rw [sm_one (p := c) hc fun j hj hne => by rw [full_unit hJ hf hch hj, if_neg (fun e => hne e.symm)]; grind, full_unit hJ hf hch hc, if_pos rfl] at this
  grind
theorem rank_inj' {g : Nat → Nat → Rat} {h w : Nat} (hf : rank g h w ≠ w) : ∃ y : Nat → Rat, (∀ i, i < h → mulV g y w i = 0) ∧ ∃ c, c < w ∧ y c ≠ 0 := by
  have hJ := red_J (g := g) (h := h) w
  obtain ⟨x, hx, hn⟩ := col_free hJ (by have := rank_le_w hJ; unfold rank at hf; omega)
  exact ⟨_, fun i hi => kvec_ker (g := g) hx hn hi, x, hx, by rw [kvec_own hn]; decide⟩
theorem dt_rank {g : Nat → Nat → Rat} {n : Nat} : dt n g ≠ 0 ↔ rank g n n = n := by
  rw [dt_red]
  unfold detR rank
  split
  · rename_i h; exact ⟨fun _ => h, fun _ => red_d_ne n⟩
  · rename_i h; exact ⟨fun h' => absurd rfl h', fun h' => absurd h' h⟩
def est (g : Nat → Nat → Rat) (k i c : Nat) : Rat := if k < i then g i c - g i k / g k k * g k c else g i c
def ela (g : Nat → Nat → Rat) : Nat → Nat → Nat → Rat
  | 0 => g
  | k + 1 => est (ela g k) k
theorem ela_low {g : Nat → Nat → Rat} {i c : Nat} : ∀ k, i ≤ k → ela g k i c = ela g i i c
  | k, h => by
    by_cases he : k = i
    · rw [he]
    · obtain ⟨k', rfl⟩ : ∃ k', k = k' + 1 := ⟨k - 1, by omega⟩
      rw [ela, est, if_neg (by omega)]
      exact ela_low k' (by omega)
theorem ela_zero {g : Nat → Nat → Rat} : ∀ k, (∀ j, j < k → ela g j j j ≠ 0) → ∀ i c, c < k → c < i → ela g k i c = 0
  | 0, _, i, c, h, _ => absurd h (by omega)
  | k + 1, hp, i, c, hc, hci => by
    rw [ela, est]
    have ih := ela_zero k fun j hj => hp j (by omega)
    split
    · rename_i h
      by_cases he : c = k
      · subst he
        have := hp c (by omega)
        rw [Rat.div_def, Rat.mul_assoc, Rat.inv_mul_cancel _ this]; grind
      · rw [ih i c (by omega) (by omega), ih k c (by omega) (by omega)]; grind
    · rename_i h
      exact ih i c (by omega) (by omega)
/-- One step, row by row. -/
def esr (g : Nat → Nat → Rat) (k j i c : Nat) : Rat := if k < i ∧ i < j then g i c - g i k / g k k * g k c else g i c
theorem Alt.esr0 {h : Nat} {D : (Nat → Nat → Rat) → Rat} (a : Alt h D) {g : Nat → Nat → Rat} {k : Nat} : ∀ j, j ≤ h → D (esr g k j) = D g
  | 0, _ => a.cong _ _ fun i _ => by
    funext c
    exact if_neg (by omega)
  | j + 1, hj => by
    refine Eq.trans ?_ (Alt.esr0 (k := k) a j (by omega))
    by_cases he : k < j
    · refine Eq.trans ?_ (a.add (g := esr g k j) (b := g j k / g k k) (show j < h by omega) (show k < h by omega) (by omega))
      refine a.cong _ _ fun i _ => ?_
      funext c
      by_cases h1 : i = j
      · subst h1
        rw [upd_same]
        unfold esr
        rw [if_pos ⟨he, by omega⟩, if_neg (by omega), if_neg (by omega)]
      · rw [upd_ne h1]
        unfold esr
        by_cases h2 : k < i ∧ i < j
        · rw [if_pos ⟨h2.1, by omega⟩, if_pos h2]
        · rw [if_neg (by omega), if_neg h2]
    · refine a.cong _ _ fun i _ => ?_
      funext c
      unfold esr
      rw [if_neg (by omega), if_neg (by omega)]
theorem Alt.ela0 {h : Nat} {D : (Nat → Nat → Rat) → Rat} (a : Alt h D) {g : Nat → Nat → Rat} : ∀ k, D (ela g k) = D g
  | 0 => rfl
  | k + 1 => by
    refine Eq.trans ?_ (Alt.ela0 a k)
    rw [← a.esr0 (g := ela g k) (k := k) h (Nat.le_refl _)]
    refine a.cong _ _ fun i hi => ?_
    funext c
    unfold esr
    rw [ela, est]
    by_cases h1 : k < i
    · rw [if_pos h1, if_pos ⟨h1, hi⟩]
    · rw [if_neg h1, if_neg (by omega)]
def pm (f : Nat → Rat) : Nat → Rat
  | 0 => 1
  | n + 1 => pm f n * f n
theorem pm_first (f : Nat → Rat) : ∀ n, pm f (n + 1) = f 0 * pm (fun i => f (i + 1)) n
  | 0 => by simp only [pm]; grind
  | n + 1 => by
    rw [pm, pm_first f n]
    simp only [pm]; grind
theorem pm_congr {f g : Nat → Rat} : ∀ {n : Nat}, (∀ i, i < n → f i = g i) → pm f n = pm g n
  | 0, _ => rfl
  | n + 1, h => by
    simp only [pm]
    rw [pm_congr fun i hi => h i (by omega), h n (by omega)]
/-- A column of 0. -/
theorem dt_col0 : ∀ {n : Nat} {g : Nat → Nat → Rat} {c : Nat}, c < n → (∀ i, i < n → g i c = 0) → dt n g = 0
  | 0, _, _, h, _ => absurd h (by omega)
  | n + 1, g, c, hc, h => by
    rw [dt]
    refine sm_zero fun k hk => ?_
    by_cases he : k = c
    · rw [he, h 0 (by omega)]; grind
    · have : dt n (mnr g k) = 0 := by
        by_cases h1 : c < k
        · refine dt_col0 (c := c) (by omega) fun i hi => ?_
          unfold mnr skp
          rw [if_pos h1]; exact h (i + 1) (by omega)
        · refine dt_col0 (c := c - 1) (by omega) fun i hi => ?_
          unfold mnr skp
          rw [if_neg (by omega), show c - 1 + 1 = c by omega]; exact h (i + 1) (by omega)
      rw [this]; grind
theorem dt_tri : ∀ {n : Nat} {g : Nat → Nat → Rat}, (∀ i c, i < n → c < i → g i c = 0) → dt n g = pm (fun i => g i i) n
  | 0, _, _ => rfl
  | n + 1, g, h => by
    rw [dt, sm_one (p := 0) (by omega) fun k hk hne => by
      rw [dt_col0 (g := mnr g k) (c := 0) (by omega) fun i hi => by
        unfold mnr skp
        rw [if_pos (by omega)]; exact h (i + 1) 0 (by omega) (by omega)]
      grind, dt_tri (g := mnr g 0) fun i c hi hc => by
        unfold mnr skp
        rw [if_neg (by omega)]; exact h (i + 1) (c + 1) (by omega) (by omega), pm_first, sgn0']
    rw [pm_congr (f := fun i => mnr g 0 i i) (g := fun i => g (i + 1) (i + 1)) fun i _ => by unfold mnr skp; rw [if_neg (by omega)]]
    grind
/-- The determinant of the first rows and columns: the product of the pivots. -/
theorem dt_pivots {g : Nat → Nat → Rat} {m : Nat} (hp : ∀ j, j + 1 < m → ela g j j j ≠ 0) : dt m g = pm (fun j => ela g j j j) m := by
  rw [← (dt_alt m).ela0 (g := g) (m - 1), dt_tri fun i c hi hc => ela_zero (m - 1) (fun j hj => hp j (by omega)) i c (by omega) hc]
  exact pm_congr fun i hi => ela_low (m - 1) (by omega)
theorem pm_pos {f : Nat → Rat} : ∀ {n : Nat}, (∀ i, i < n → 0 < f i) → 0 < pm f n
  | 0, _ => by show (0 : Rat) < 1; decide
  | n + 1, h => by
    simp only [pm]
    exact Rat.mul_pos (pm_pos fun i hi => h i (by omega)) (h n (by omega))
/-- All pivots are positive. -/
def posE (g : Nat → Nat → Rat) (n : Nat) : Prop := ∀ k, k < n → 0 < ela g k k k
/-- Each row is a sum of rows, of which its own one stands there once, and none behind it. -/
theorem ela_comb {g : Nat → Nat → Rat} {n : Nat} : ∀ k i, i < n → ∃ l : Nat → Rat, l i = 1 ∧ (∀ j, i < j → l j = 0) ∧ ∀ c, ela g k i c = sm (fun j => l j * g j c) n
  | 0, i, hi => ⟨upd (fun _ => 0) i 1, upd_same, fun j hj => upd_ne (by omega), fun c => by
      rw [sm_one (p := i) hi fun j _ hne => by rw [upd_ne hne]; grind, upd_same, ela]; grind⟩
  | k + 1, i, hi => by
    obtain ⟨l, l1, l2, l3⟩ := ela_comb (g := g) (n := n) k i hi
    by_cases h : k < i
    · obtain ⟨m, m1, m2, m3⟩ := ela_comb (g := g) (n := n) k k (by omega)
      refine ⟨fun j => l j - ela g k i k / ela g k k k * m j, ?_, fun j hj => ?_, fun c => ?_⟩
      · show l i - _ * m i = 1
        rw [l1, m2 i h]; grind
      · show l j - _ * m j = 0
        rw [l2 j hj, m2 j (by omega)]; grind
      · rw [ela, est, if_pos h, sm_congr (g := fun j => l j * g j c - ela g k i k / ela g k k k * (m j * g j c)) fun j _ => by grind, sm_lin, ← l3 c, ← m3 c]
    · exact ⟨l, l1, l2, fun c => by rw [ela, est, if_neg h]; exact l3 c⟩
theorem sm_nonneg {f : Nat → Rat} : ∀ {n : Nat}, (∀ i, i < n → 0 ≤ f i) → 0 ≤ sm f n
  | 0, _ => Rat.le_refl
  | n + 1, h => by
    have h1 := sm_nonneg (f := f) (n := n) fun i hi => h i (by omega)
    have h2 := h n (by omega)
    simp only [sm]; grind
theorem sq_nonneg (a : Rat) : 0 ≤ a * a := by
  rcases Rat.le_total (a := 0) (b := a) with h | h
  · exact Rat.mul_nonneg h h
  · have := Rat.mul_nonneg (a := -a) (b := -a) (by grind) (by grind)
    grind
theorem sm_sq {f : Nat → Rat} : ∀ {n : Nat}, sm (fun i => f i * f i) n = 0 → ∀ i, i < n → f i = 0
  | 0, _, i, hi => absurd hi (by omega)
  | n + 1, h, i, hi => by
    simp only [sm] at h
    have h1 := sm_nonneg (f := fun i => f i * f i) (n := n) fun i _ => sq_nonneg _
    have h2 := sq_nonneg (f n)
    by_cases he : i = n
    · subst he
      have : f i * f i = 0 := by grind
      rcases Rat.mul_eq_zero.1 this with h | h <;> exact h
    · exact sm_sq (n := n) (by grind) i (by omega)
/-- The square of what a matrix does to a vector. -/
theorem square_form {C : Nat → Nat → Rat} {h n : Nat} (l : Nat → Rat) : sm (fun c => sm (fun j => l j * mulM (tr C) C h j c) n * l c) n = sm (fun i => mulV C l n i * mulV C l n i) h := by
  have e1 : ∀ c, sm (fun j => l j * mulM (tr C) C h j c) n = sm (fun i => mulV C l n i * C i c) h := fun c => by
    rw [sm_congr (g := fun j => sm (fun i => l j * (C i c * C i j)) h) fun j _ => by
      unfold mulM mulV tr
      rw [sm_mulL], sm_swap]
    refine sm_congr fun i _ => ?_
    unfold mulV
    rw [← sm_scale]
    exact sm_congr fun j _ => by grind
  rw [sm_congr (g := fun c => sm (fun i => mulV C l n i * (C i c * l c)) h) fun c _ => by
    rw [e1, ← sm_scale]
    exact sm_congr fun i _ => by grind, sm_swap]
  refine sm_congr fun i _ => ?_
  rw [sm_mulL]
  rfl
/-- A turned matrix times the matrix: all pivots are positive exactly if the rank is the number of columns. -/
theorem square_pos {C : Nat → Nat → Rat} {h n : Nat} : posE (mulM (tr C) C h) n ↔ rank C h n = n := by
  constructor
  · intro hp
    refine Classical.byContradiction fun hr => ?_
    obtain ⟨y, y1, c, hc, y2⟩ := rank_inj' hr
    have hd : 0 < dt n (mulM (tr C) C h) := by
      rw [dt_pivots fun j hj => by have := hp j (by omega); grind]
      exact pm_pos hp
    have hf : rank (mulM (tr C) C h) n n = n := dt_rank.1 (by grind)
    refine y2 (rank_inj hf (fun i hi => ?_) hc)
    unfold mulV mulM mulV tr
    rw [sm_congr (g := fun c => sm (fun k => C k i * (C k c * y c)) h) fun c _ => by
      rw [← sm_scale]
      exact sm_congr fun k _ => by grind, sm_swap]
    refine sm_zero fun k hk => ?_
    rw [sm_mulL]
    have := y1 k hk
    unfold mulV at this
    rw [this]; grind
  · intro hr k
    induction k using Nat.strongRecOn with
    | _ k ih =>
      intro hk
      obtain ⟨l, l1, l2, l3⟩ := ela_comb (g := mulM (tr C) C h) (n := n) k k hk
      have hq := square_form (C := C) (h := h) (n := n) l
      rw [sm_congr (g := fun c => ela (mulM (tr C) C h) k k c * l c) fun c _ => by rw [← l3 c], sm_one (p := k) hk fun c hc hne => by
        by_cases h1 : c < k
        · rw [ela_zero k (fun j hj => by have := ih j hj (by omega); grind) k c h1 h1]; grind
        · rw [l2 c (by omega)]; grind, l1] at hq
      have h1 := sm_nonneg (f := fun i => mulV C l n i * mulV C l n i) (n := h) fun i _ => sq_nonneg _
      have h2 : sm (fun i => mulV C l n i * mulV C l n i) h ≠ 0 := fun hz => by
        have := rank_inj hr (y := l) (fun i hi => sm_sq hz i hi) hk
        rw [l1] at this
        exact absurd this (by decide)
      grind
end Go.Proofs.Ytkjnngaceacmdaa
