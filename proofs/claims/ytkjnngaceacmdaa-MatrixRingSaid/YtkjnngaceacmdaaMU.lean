/- Determinants of products, ranks of turned matrices, elimination without a search for pivots. -/
import Derived.Test.YtkjnngaceacmdaaMT
import Derived.Test.YtkjnngaceacmdaaMN
import Derived.Test.YtkjnngaceacmdaaMP
set_option linter.unusedVariables false
namespace Go.Proofs.Ytkjnngaceacmdaa

theorem sgn0' : sgn 0 = 1 := rfl
def unitM (i c : Nat) : Rat := if i = c then 1 else 0
theorem dt_unit : ∀ n, dt n unitM = 1
  | 0 => rfl
  | n + 1 => by
    rw [dt, sm_one (p := 0) (by omega) fun k _ hk => by unfold unitM; rw [if_neg (fun e => hk e.symm)]; grind]
    have e : dt n (mnr unitM 0) = dt n unitM := dt_congr fun i c _ _ => by
      unfold mnr unitM skp
      rw [if_neg (Nat.not_lt_zero c)]
      by_cases h : i = c
      · rw [if_pos h, if_pos (by omega)]
      · rw [if_neg h, if_neg (by omega)]
    rw [e, dt_unit n, sgn0']
    unfold unitM
    rw [if_pos rfl]; grind
theorem pat_ge {h k : Nat} {s : RS} (hs : RJ h k s) : ∀ i, i < s.ps.length → i ≤ pat s.ps i
  | 0, _ => Nat.zero_le _
  | i + 1, hi => by
    have := pat_ge hs i (by omega)
    have := hs.inc i (i + 1) (by omega) hi
    omega
theorem pat_room {h k : Nat} {s : RS} (hs : RJ h k s) : ∀ t i, i + t + 1 = s.ps.length → pat s.ps i + t < k
  | 0, i, hi => hs.pk i (by omega)
  | t + 1, i, hi => by
    have := pat_room hs t (i + 1) (by omega)
    have := hs.inc i (i + 1) (by omega) (by omega)
    omega
/-- As many pivots as columns: the pivots are the columns. -/
theorem pat_full {h k : Nat} {s : RS} (hs : RJ h k s) (hf : s.ps.length = k) {i : Nat} (hi : i < k) : pat s.ps i = i := by
  have h1 := pat_ge hs i (by omega)
  have h2 := pat_room hs (k - 1 - i) i (by omega)
  omega
theorem full_unit {h k : Nat} {s : RS} (hs : RJ h k s) (hf : s.ps.length = k) {i c : Nat} (hi : i < h) (hc : c < k) : s.g i c = if i = c then 1 else 0 := by
  have := hs.one c i (by omega) hi
  rw [pat_full hs hf hc] at this
  exact this
/-- The determinant, by what was done to the rows. -/
def detR (g : Nat → Nat → Rat) (n : Nat) : Rat := if (red g n n).ps.length = n then (red g n n).d else 0
theorem dt_red {g : Nat → Nat → Rat} {n : Nat} : dt n g = detR g n := by
  have hJ := red_J (g := g) (h := n) n
  unfold detR
  rw [(dt_alt n).red0 (g := g) n]
  split
  · rename_i hf
    rw [dt_congr (g' := unitM) fun i c hi hc => full_unit hJ hf hi hc, dt_unit]; grind
  · rename_i hf
    have hlt : (red g n n).ps.length < n := by have := hJ.ph; omega
    rw [dt_congr (g' := fun i c => if c < n then (red g n n).g i c else 0) fun i c hi hc => by rw [if_pos hc], (dt_alt n).zero (i := n - 1) (by omega) ?_]
    · grind
    · funext c
      split
      · rename_i hc
        exact hJ.z (n - 1) c (by omega) (by omega) hc
      · rfl
theorem mulM_alt (q : Nat → Nat → Rat) (n w : Nat) : Alt n fun g => dt n (mulM g q w) := by
  have eu : ∀ (g : Nat → Nat → Rat) (f : Nat → Rat) (i : Nat), mulM (upd g i f) q w = upd (mulM g q w) i (fun j => mulV (tr q) f w j) := by
    intro g f i
    funext j c
    unfold mulM
    by_cases h : j = i
    · subst h; rw [upd_same, upd_same]
    · rw [upd_ne h, upd_ne h]
  refine ⟨fun g g' h => dt_congr fun i c hi _ => ?_, fun g u v a i hi => ?_, fun g i j hi hj hne => ?_⟩
  · unfold mulM; rw [h i hi]
  · show dt n _ = dt n _ - a * dt n _
    rw [eu, eu, eu, ← dt_lin hi]
    congr 2
    funext j
    unfold mulV
    rw [← sm_lin]
    exact sm_congr fun c _ => by grind
  · exact (dt_alt n).swap (mulM g q w) i j hi hj hne
/-- The determinant of a product. -/
theorem dt_mul {g q : Nat → Nat → Rat} {n : Nat} : dt n (mulM g q n) = dt n g * dt n q := by
  have hJ := red_J (g := g) (h := n) n
  have hm : dt n (mulM g q n) = (red g n n).d * dt n (mulM (red g n n).g q n) := (mulM_alt q n n).red0 (g := g) n
  rw [hm, dt_red (g := g)]
  unfold detR
  split
  · rename_i hf
    rw [dt_congr (g := mulM (red g n n).g q n) (g' := q) fun i c hi hc => ?_]
    unfold mulM mulV tr
    rw [sm_one (p := i) hi fun j hj hne => by rw [full_unit hJ hf hi hj, if_neg (fun e => hne e.symm)]; grind]
    rw [full_unit hJ hf hi hi, if_pos rfl]; grind
  · rename_i hf
    have hlt : (red g n n).ps.length < n := by have := hJ.ph; omega
    rw [(dt_alt n).zero (g := mulM (red g n n).g q n) (i := n - 1) (by omega) (by
      funext c
      unfold mulM mulV
      exact sm_zero fun j hj => by rw [hJ.z (n - 1) j (by omega) (by omega) hj]; grind)]
    grind
def rank (g : Nat → Nat → Rat) (h w : Nat) : Nat := (red g h w).ps.length
/-- A matrix is its pivot columns times its reduced rows. -/
theorem rank_fact {g : Nat → Nat → Rat} {h w i c : Nat} (hi : i < h) (hc : c < w) : g i c = sm (fun j => g i (pat (red g h w).ps j) * (red g h w).g j c) (rank g h w) := by
  have hJ := red_J (g := g) (h := h) w
  by_cases hm : c ∈ (red g h w).ps
  · obtain ⟨j, hj, rfl⟩ := mem_pat hm
    have hjh : j < h := by have := hJ.ph; omega
    unfold rank
    rw [sm_one (p := j) hj fun j' hj' hne => by
      have h1 := hJ.one j j' hj (by have := hJ.ph; omega)
      rw [if_neg hne] at h1
      show _ * (red g h w).g j' _ = 0
      rw [h1]; grind]
    rw [hJ.one j j hj hjh, if_pos rfl]; grind
  · have hf' : ∀ i, i < (red g h w).ps.length → pat (red g h w).ps i ≠ c := fun i hi e => hm (e ▸ pat_mem hi)
    have h1 := kvec_ker (g := g) hc hm hi
    unfold mulV at h1
    rw [kvec_dot hJ (Nat.le_refl _) hc hf' (g i) _ (Nat.le_refl _)] at h1
    unfold psum at h1
    unfold rank
    grind
/-- A vector that is 0 outside of the pivots. -/
def spr (ps : List Nat) (y : Nat → Rat) : Nat → Nat → Rat
  | 0 => fun _ => 0
  | m + 1 => upd (spr ps y m) (pat ps m) (y m)
theorem spr_free {ps : List Nat} {y : Nat → Rat} {c : Nat} : ∀ m, (∀ i, i < m → pat ps i ≠ c) → spr ps y m c = 0
  | 0, _ => rfl
  | m + 1, h => by
    unfold spr
    rw [upd_ne (fun e => h m (by omega) e.symm)]
    exact spr_free m fun i hi => h i (by omega)
theorem spr_dot {h w k : Nat} {s : RS} (hs : RJ h k s) (hk : k ≤ w) (G y : Nat → Rat) : ∀ m, m ≤ s.ps.length → sm (fun c => G c * spr s.ps y m c) w = sm (fun i => G (pat s.ps i) * y i) m
  | 0, _ => by
    simp only [sm]
    exact sm_zero fun i _ => by unfold spr; grind
  | m + 1, hm => by
    unfold spr
    rw [sm_upd (by have := hs.pk m (by omega); omega), spr_dot hs hk G y m (by omega), spr_free m fun i hi => pat_inj hs (by omega) (by omega) (by omega)]
    simp only [sm]
    grind
/-- Fewer pivots than columns: there is a column without. -/
theorem col_free {h w : Nat} {s : RS} (hs : RJ h w s) (hlt : s.ps.length < w) : ∃ x, x < w ∧ x ∉ s.ps := by
  obtain ⟨m, h1, h2, h3⟩ := kerL_count hs w (Nat.le_refl _)
  refine Classical.byContradiction fun hno => ?_
  have : ∀ k, k ≤ w → (kerL s w k) = [] := by
    intro k
    induction k with
    | zero => intro _; rfl
    | succ k ih =>
      intro hk
      rw [kerL_succ, if_pos (Classical.byContradiction fun hn => hno ⟨k, by omega, hn⟩)]
      exact ih (by omega)
  rw [this w (Nat.le_refl _)] at h3
  simp only [List.length_nil] at h3
  omega
/-- A product over r is of rank r at most. -/
theorem rank_le {g C R : Nat → Nat → Rat} {h w r : Nat} (hg : ∀ i c, i < h → c < w → g i c = sm (fun j => C i j * R j c) r) : rank g h w ≤ r := by
  have hJ := red_J (g := g) (h := h) w
  refine Classical.byContradiction fun hlt => ?_
  unfold rank at hlt
  generalize hs : red g h w = s at *
  -- the columns of the pivots of R have a kernel
  have hJ' := red_J (g := fun j x => R j (pat s.ps x)) (h := r) s.ps.length
  obtain ⟨x, hx, hn⟩ := col_free hJ' (by have := hJ'.ph; omega)
  have hk := fun i (hi : i < r) => kvec_ker (g := fun j x => R j (pat s.ps x)) (h := r) hx hn hi
  have hown := kvec_own (g := fun j x => R j (pat s.ps x)) (h := r) hn
  generalize kvec (red (fun j x => R j (pat s.ps x)) r s.ps.length) x (red (fun j x => R j (pat s.ps x)) r s.ps.length).ps.length = y at *
  have hz : ∀ i, i < h → rd g (spr s.ps y s.ps.length) w i = 0 := fun i hi => by
    unfold rd
    rw [spr_dot hJ (Nat.le_refl _) (g i) y _ (Nat.le_refl _)]
    rw [sm_congr (g := fun c => sm (fun j => C i j * R j (pat s.ps c) * y c) r) fun c hc => by
      rw [hg i _ hi (hJ.pk c hc), ← sm_scale]]
    rw [sm_swap]
    refine sm_zero fun j hj => ?_
    have := hk j hj
    unfold mulV at this
    rw [sm_congr (g := fun c => C i j * (R j (pat s.ps c) * y c)) fun c _ => by grind, sm_mulL, this]; grind
  have hz' := (red_sol (g := g) (y := spr s.ps y s.ps.length) (n := w) (h := h) w).2 hz
  rw [hs] at hz'
  have hxh : x < h := by have := hJ.ph; omega
  have := hz' x hxh
  unfold rd at this
  rw [spr_dot hJ (Nat.le_refl _) (s.g x) y _ (Nat.le_refl _), sm_one (p := x) hx fun j hj hne => by rw [hJ.one j x hj hxh, if_neg (fun e => hne e.symm)]; grind] at this
  rw [hJ.one x x hx hxh, if_pos rfl, hown] at this
  grind
theorem rank_tr_le {g : Nat → Nat → Rat} {h w : Nat} : rank (tr g) w h ≤ rank g h w :=
  rank_le (C := fun i j => (red g h w).g j i) (R := fun j c => g c (pat (red g h w).ps j)) fun i c hi hc => by
    have := rank_fact (g := g) hc hi
    unfold tr
    rw [this]
    exact sm_congr fun j _ => Rat.mul_comm _ _
/-- The rank of a turned matrix. -/
theorem rank_tr {g : Nat → Nat → Rat} {h w : Nat} : rank (tr g) w h = rank g h w :=
  Nat.le_antisymm rank_tr_le (rank_tr_le (g := tr g))
theorem mulM_assoc {a b c : Nat → Nat → Rat} {n m : Nat} : mulM (mulM a b n) c m = mulM a (mulM b c m) n := by
  funext i j
  unfold mulM mulV tr
  rw [sm_congr (g := fun k => sm (fun l => c k j * (b l k * a i l)) n) fun k _ => by rw [← sm_mulL], sm_swap]
  refine sm_congr fun l _ => ?_
  rw [← sm_scale]
  exact sm_congr fun k _ => by grind
theorem mulM_tr {a b : Nat → Nat → Rat} {n : Nat} : tr (mulM a b n) = mulM (tr b) (tr a) n := by
  funext i j
  unfold mulM mulV tr
  exact sm_congr fun k _ => Rat.mul_comm _ _
end Go.Proofs.Ytkjnngaceacmdaa
