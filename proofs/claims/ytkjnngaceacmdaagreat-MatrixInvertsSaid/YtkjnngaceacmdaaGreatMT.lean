/- Determinants by the first row; what row operations do to them. -/
import Derived.Test.YtkjnngaceacmdaaGreatMR
set_option linter.unusedVariables false
namespace Go.Proofs.YtkjnngaceacmdaaGreat

theorem sm_swap (F : Nat → Nat → Rat) (m : Nat) : ∀ n, sm (fun i => sm (F i) m) n = sm (fun j => sm (fun i => F i j) n) m
  | 0 => by
    simp only [sm]
    exact (sm_zero fun i _ => rfl).symm
  | n + 1 => by
    simp only [sm]
    rw [sm_swap F m n, sm_add]
theorem sm_mulL (f : Nat → Rat) (a : Rat) (n : Nat) : sm (fun c => a * f c) n = a * sm f n := by
  rw [Rat.mul_comm, ← sm_scale]
  exact sm_congr fun i _ => Rat.mul_comm _ _
theorem sm_neg (f : Nat → Rat) (n : Nat) : sm (fun c => -(f c)) n = -(sm f n) := by
  have := sm_mulL f (-1) n
  rw [sm_congr (g := fun c => -1 * f c) fun i _ => by grind, this]; grind
/-- The columns without one. -/
def skp (k c : Nat) : Nat := if c < k then c else c + 1
theorem sm_skp (F : Nat → Rat) {k : Nat} : ∀ {n : Nat}, k ≤ n → sm (fun l => F (skp k l)) n = sm (fun m => if m = k then 0 else F m) (n + 1)
  | 0, h => by
    have : k = 0 := by omega
    subst this
    simp only [sm]; grind
  | n + 1, h => by
    by_cases hk : k ≤ n
    · have ih := sm_skp F hk
      rw [sm, ih, sm, sm, sm]
      have e1 : skp k n = n + 1 := by unfold skp; rw [if_neg (by omega)]
      rw [e1, if_neg (show ¬ n + 1 = k by omega)]
    · have : k = n + 1 := by omega
      subst this
      rw [sm.eq_2 _ (n + 1), if_pos rfl]
      rw [sm_congr (g := F) fun i hi => by unfold skp; rw [if_pos hi], sm_congr (g := F) fun i hi => if_neg (by omega)]
      grind
def sgn (k : Nat) : Rat := if k % 2 = 0 then 1 else -1
def mnr (g : Nat → Nat → Rat) (k i c : Nat) : Rat := g (i + 1) (skp k c)
def dt : Nat → (Nat → Nat → Rat) → Rat
  | 0, _ => 1
  | n + 1, g => sm (fun k => sgn k * (g 0 k * dt n (mnr g k))) (n + 1)
theorem skp_lt {k c n : Nat} (hc : c < n) : skp k c < n + 1 := by unfold skp; split <;> omega
theorem dt_congr : ∀ {n : Nat} {g g' : Nat → Nat → Rat}, (∀ i c, i < n → c < n → g i c = g' i c) → dt n g = dt n g'
  | 0, _, _, _ => rfl
  | n + 1, g, g', h => by
    simp only [dt]
    refine sm_congr fun k hk => ?_
    rw [h 0 k (by omega) hk, dt_congr (g := mnr g k) (g' := mnr g' k) fun i c hi hc => h (i + 1) _ (by omega) (skp_lt hc)]
theorem mnr_upd0 {g : Nat → Nat → Rat} {f : Nat → Rat} {k : Nat} : mnr (upd g 0 f) k = mnr g k := by
  funext i c
  unfold mnr
  rw [upd_ne (by omega)]
theorem mnr_upd {g : Nat → Nat → Rat} {f : Nat → Rat} {k j : Nat} : mnr (upd g (j + 1) f) k = upd (mnr g k) j (fun c => f (skp k c)) := by
  funext i c
  unfold mnr
  by_cases h : i = j
  · subst h; rw [upd_same, upd_same]
  · rw [upd_ne (by omega), upd_ne h]
theorem dt_lin {u v : Nat → Rat} {a : Rat} : ∀ {n : Nat} {g : Nat → Nat → Rat} {i : Nat}, i < n → dt n (upd g i (fun c => u c - a * v c)) = dt n (upd g i u) - a * dt n (upd g i v)
  | 0, _, _, h => by omega
  | n + 1, g, 0, _ => by
    simp only [dt, mnr_upd0, upd_same]
    rw [← sm_lin]
    exact sm_congr fun k _ => by grind
  | n + 1, g, j + 1, h => by
    simp only [dt, mnr_upd, upd_ne (show 0 ≠ j + 1 by omega)]
    rw [← sm_lin]
    refine sm_congr fun k _ => ?_
    rw [dt_lin (u := fun c => u (skp k c)) (v := fun c => v (skp k c)) (a := a) (show j < n by omega)]
    grind
theorem sgn_succ (k : Nat) : sgn (k + 1) = -(sgn k) := by
  unfold sgn
  by_cases h : k % 2 = 0
  · rw [if_pos h, if_neg (by omega)]
  · rw [if_neg h, if_pos (by omega)]; grind
theorem sgn_add (k : Nat) : ∀ l, sgn (k + l) = sgn k * sgn l
  | 0 => by
    have : sgn 0 = 1 := rfl
    rw [this, Nat.add_zero]; grind
  | l + 1 => by
    rw [← Nat.add_assoc, sgn_succ, sgn_add k l, sgn_succ]; grind
/-- The columns without two. -/
def skp2 (k m c : Nat) : Nat := if c < min k m then c else if c + 1 < max k m then c + 1 else c + 2
theorem skp_skp (k l c : Nat) : skp k (skp l c) = skp2 k (skp k l) c := by
  unfold skp2 skp
  by_cases h1 : l < k
  · rw [if_pos h1]
    repeat' split
    all_goals omega
  · rw [if_neg h1]
    repeat' split
    all_goals omega
theorem skp2_comm (k m c : Nat) : skp2 k m c = skp2 m k c := by
  unfold skp2; rw [Nat.min_comm, Nat.max_comm]
def eps (k m : Nat) : Rat := if k < m then sgn (k + m + 1) else sgn (k + m)
theorem eps_comm {k m : Nat} (h : m ≠ k) : eps k m = -(eps m k) := by
  unfold eps
  by_cases h1 : k < m
  · rw [if_pos h1, if_neg (by omega), sgn_succ, Nat.add_comm]
  · rw [if_neg h1, if_pos (by omega), sgn_succ, Nat.add_comm]; grind
theorem eps_skp (k l : Nat) : sgn k * sgn l = eps k (skp k l) := by
  unfold eps skp
  by_cases h : l < k
  · rw [if_pos h, if_neg (by omega), sgn_add]
  · rw [if_neg h, if_pos (by omega)]
    rw [show k + (l + 1) + 1 = k + l + 2 by omega, show sgn (k + l + 2) = sgn (k + l) by unfold sgn; rw [show (k + l + 2) % 2 = (k + l) % 2 by omega], sgn_add]
/-- The rows from the third one on, without two columns. -/
def mnr2 (g : Nat → Nat → Rat) (k m i c : Nat) : Rat := g (i + 2) (skp2 k m c)
theorem dt_two {n : Nat} {g : Nat → Nat → Rat} : dt (n + 2) g = sm (fun k => sm (fun m => if m = k then 0 else eps k m * (g 0 k * (g 1 m * dt n (mnr2 g k m)))) (n + 2)) (n + 2) := by
  rw [dt]
  refine sm_congr fun k hk => ?_
  rw [← sm_skp (fun m => eps k m * (g 0 k * (g 1 m * dt n (mnr2 g k m)))) (show k ≤ n + 1 by omega), dt, ← sm_mulL, ← sm_mulL]
  refine sm_congr fun l _ => ?_
  rw [← eps_skp, show dt n (mnr (mnr g k) l) = dt n (mnr2 g k (skp k l)) from congrArg (dt n) (by
    funext i c
    unfold mnr mnr2
    rw [skp_skp])]
  unfold mnr
  grind
theorem dt_swap01 {n : Nat} {g : Nat → Nat → Rat} : dt (n + 2) (swp g 0 1) = -(dt (n + 2) g) := by
  rw [dt_two, dt_two, sm_swap, ← sm_neg]
  refine sm_congr fun k _ => ?_
  rw [← sm_neg]
  refine sm_congr fun m _ => ?_
  by_cases h : k = m
  · rw [if_pos h, if_pos h.symm]; grind
  · rw [if_neg h, if_neg (fun e => h e.symm), eps_comm (by exact fun e => h e)]
    have e : mnr2 (swp g 0 1) m k = mnr2 g k m := by
      funext i c
      unfold mnr2 swp
      rw [if_neg (by omega), if_neg (by omega), skp2_comm]
    rw [e]
    have e1 : swp g 0 1 0 = g 1 := by unfold swp; rw [if_pos rfl]
    have e2 : swp g 0 1 1 = g 0 := by unfold swp; rw [if_neg (by omega), if_pos rfl]
    rw [e1, e2]
    grind
theorem mnr_swp {g : Nat → Nat → Rat} {a b k : Nat} : mnr (swp g (a + 1) (b + 1)) k = swp (mnr g k) a b := by
  funext i c
  unfold mnr swp
  congr 1
  by_cases h1 : i = a
  · rw [if_pos (by omega), if_pos h1]
  · rw [if_neg (by omega), if_neg h1]
    by_cases h2 : i = b
    · rw [if_pos (by omega), if_pos h2]
    · rw [if_neg (by omega), if_neg h2]
theorem dt_adj : ∀ {n : Nat} {g : Nat → Nat → Rat} {i : Nat}, i + 1 < n → dt n (swp g i (i + 1)) = -(dt n g)
  | 0, _, _, h => by omega
  | 1, _, _, h => by omega
  | n + 2, g, 0, _ => dt_swap01
  | n + 2, g, i + 1, h => by
    rw [dt, dt, ← sm_neg]
    refine sm_congr fun k _ => ?_
    rw [mnr_swp, dt_adj (show i + 1 < n + 1 by omega)]
    have e1 : swp g (i + 1) (i + 1 + 1) 0 = g 0 := by unfold swp; rw [if_neg (by omega), if_neg (by omega)]
    rw [e1]; grind
theorem dt_swp {n : Nat} : ∀ (t : Nat) {g : Nat → Nat → Rat} {i : Nat}, i + t + 1 < n → dt n (swp g i (i + t + 1)) = -(dt n g)
  | 0, g, i, h => dt_adj h
  | t + 1, g, i, h => by
    have e : swp g i (i + (t + 1) + 1) = swp (swp (swp g (i + t + 1) (i + t + 1 + 1)) i (i + t + 1)) (i + t + 1) (i + t + 1 + 1) := by
      funext j
      unfold swp
      congr 1
      repeat' split
      all_goals omega
    rw [e, dt_adj (by omega), dt_swp t (by omega), dt_adj (by omega)]; grind
theorem swp_comm {g : Nat → Nat → Rat} {a b : Nat} : swp g a b = swp g b a := by
  funext j
  unfold swp
  congr 1
  repeat' split
  all_goals omega
structure Alt (h : Nat) (D : (Nat → Nat → Rat) → Rat) : Prop where
  cong : ∀ g g' : Nat → Nat → Rat, (∀ i, i < h → g i = g' i) → D g = D g'
  lin : ∀ (g : Nat → Nat → Rat) (u v : Nat → Rat) (a : Rat) (i : Nat), i < h → D (upd g i (fun c => u c - a * v c)) = D (upd g i u) - a * D (upd g i v)
  swap : ∀ (g : Nat → Nat → Rat) (i j : Nat), i < h → j < h → i ≠ j → D (swp g i j) = -(D g)
theorem dt_alt (n : Nat) : Alt n (dt n) := ⟨fun g g' h => dt_congr fun i c hi _ => by rw [h i hi], fun g u v a i hi => dt_lin hi, fun g i j hi hj hne => by
  by_cases h : i < j
  · obtain ⟨t, rfl⟩ : ∃ t, j = i + t + 1 := ⟨j - i - 1, by omega⟩
    exact dt_swp t hj
  · obtain ⟨t, rfl⟩ : ∃ t, i = j + t + 1 := ⟨i - j - 1, by omega⟩
    rw [swp_comm]
    exact dt_swp t hi⟩
theorem Alt.zero {h : Nat} {D : (Nat → Nat → Rat) → Rat} (a : Alt h D) {g : Nat → Nat → Rat} {i : Nat} (hi : i < h) (hz : g i = fun _ => 0) : D g = 0 := by
  have := a.lin g (g i) (g i) 1 i hi
  have e : (fun c => g i c - 1 * g i c) = g i := by funext c; rw [hz]; grind
  have e2 : upd g i (g i) = g := by
    funext j
    unfold upd
    split
    · rename_i h; rw [h]
    · rfl
  rw [e, e2] at this
  grind
theorem upd_self {α : Type} {g : Nat → α} {i : Nat} : upd g i (g i) = g := by
  funext j
  unfold upd
  split
  · rename_i h; rw [h]
  · rfl
theorem Alt.same {h : Nat} {D : (Nat → Nat → Rat) → Rat} (a : Alt h D) {g : Nat → Nat → Rat} {i j : Nat} (hi : i < h) (hj : j < h) (hne : i ≠ j) (he : g i = g j) : D g = 0 := by
  have h1 := a.swap g i j hi hj hne
  have e : swp g i j = g := by
    funext l
    unfold swp
    split
    · rename_i h; rw [h, he]
    · split
      · rename_i h; rw [h, he]
      · rfl
  rw [e] at h1
  grind
theorem Alt.add {h : Nat} {D : (Nat → Nat → Rat) → Rat} (a : Alt h D) {g : Nat → Nat → Rat} {b : Rat} {i j : Nat} (hi : i < h) (hj : j < h) (hne : i ≠ j) : D (upd g i (fun c => g i c - b * g j c)) = D g := by
  rw [a.lin g (g i) (g j) b i hi, upd_self, a.same (g := upd g i (g j)) hi hj hne (by rw [upd_same, upd_ne (fun e => hne e.symm)])]
  grind
end Go.Proofs.YtkjnngaceacmdaaGreat
