/- Solutions and kernels, in numbers. -/
import Derived.Test.YtkjnngaceacmdaaMR
import Derived.Test.YtkjnngaceacmdaaMS
set_option linter.unusedVariables false
namespace Go.Proofs.Ytkjnngaceacmdaa

theorem sm_upd {G f : Nat → Rat} {p : Nat} {a : Rat} : ∀ {n : Nat}, p < n → sm (fun c => G c * upd f p a c) n = sm (fun c => G c * f c) n + G p * (a - f p)
  | 0, h => by omega
  | n + 1, h => by
    simp only [sm]
    by_cases he : p = n
    · subst he
      rw [sm_congr (f := fun c => G c * upd f p a c) (g := fun c => G c * f c) fun i hi => by rw [upd_ne (by omega)], upd_same]
      grind
    · rw [sm_upd (show p < n by omega), upd_ne (show n ≠ p by omega)]
      grind
/-- The sum over the pivots. -/
def psum (s : RS) (G : Nat → Rat) (a : Nat → Rat) (m : Nat) : Rat := sm (fun i => G (pat s.ps i) * a i) m
theorem svec_free {s : RS} {w c : Nat} : ∀ m, m ≤ s.ps.length → (∀ i, i < m → pat s.ps i ≠ c) → svec s w m c = 0
  | 0, _, _ => rfl
  | m + 1, hm, h => by
    unfold svec
    rw [upd_ne (fun e => h m (by omega) e.symm)]
    exact svec_free m (by omega) fun i hi => h i (by omega)
theorem pat_inj {h k : Nat} {s : RS} (hs : RJ h k s) {i j : Nat} (hi : i < s.ps.length) (hj : j < s.ps.length) (hne : i ≠ j) : pat s.ps i ≠ pat s.ps j := by
  by_cases h1 : i < j
  · have := hs.inc i j h1 hj; omega
  · have := hs.inc j i (by omega) hi; omega
theorem svec_dot {h w k : Nat} {s : RS} (hs : RJ h k s) (hk : k ≤ w) (G : Nat → Rat) : ∀ m, m ≤ s.ps.length → sm (fun c => G c * svec s w m c) w = psum s G (fun i => s.g i w) m
  | 0, _ => by
    unfold psum
    simp only [sm]
    exact sm_zero fun i _ => by unfold svec; grind
  | m + 1, hm => by
    unfold svec
    rw [sm_upd (by have := hs.pk m (by omega); omega), svec_dot hs hk G m (by omega), svec_free m (by omega) fun i hi => pat_inj hs (by omega) (by omega) (by omega)]
    unfold psum
    simp only [sm]
    grind
theorem psum_row {h k : Nat} {s : RS} (hs : RJ h k s) {i' : Nat} (hi : i' < h) (a : Nat → Rat) : psum s (s.g i') a s.ps.length = if i' < s.ps.length then a i' else 0 := by
  unfold psum
  split
  · rename_i hl
    rw [sm_one (p := i') hl fun i hi2 hne => by rw [hs.one i i' hi2 hi, if_neg (by omega)]; grind]
    rw [hs.one i' i' hl hi, if_pos rfl]; grind
  · exact sm_zero fun i hi2 => by rw [hs.one i i' hi2 hi, if_neg (by omega)]; grind
theorem kvec_at {h k : Nat} {s : RS} (hs : RJ h k s) {x : Nat} : ∀ m, m ≤ s.ps.length → ∀ c, (∀ i, i < m → pat s.ps i ≠ c) → kvec s x m c = if c = x then 1 else 0
  | 0, _, c, _ => by
    unfold kvec upd
    split <;> rfl
  | m + 1, hm, c, h => by
    unfold kvec
    rw [upd_ne (fun e => h m (by omega) e.symm)]
    exact kvec_at hs m (by omega) c fun i hi => h i (by omega)
theorem kvec_pat {h k : Nat} {s : RS} (hs : RJ h k s) {x i : Nat} : ∀ m, m ≤ s.ps.length → i < m → kvec s x m (pat s.ps i) = -(s.g i x)
  | 0, _, hi => by omega
  | m + 1, hm, hi => by
    unfold kvec
    by_cases he : i = m
    · subst he; rw [upd_same]
    · rw [upd_ne (pat_inj hs (by omega) (by omega) he)]
      exact kvec_pat hs m (by omega) (by omega)
theorem kvec_dot {h w k : Nat} {s : RS} (hs : RJ h k s) (hk : k ≤ w) {x : Nat} (hx : x < w) (hf : ∀ i, i < s.ps.length → pat s.ps i ≠ x) (G : Nat → Rat) : ∀ m, m ≤ s.ps.length → sm (fun c => G c * kvec s x m c) w = G x - psum s G (fun i => s.g i x) m
  | 0, _ => by
    unfold kvec psum
    rw [sm_upd hx, sm_zero fun i _ => by grind]
    simp only [sm]
    grind
  | m + 1, hm => by
    unfold kvec
    rw [sm_upd (by have := hs.pk m (by omega); omega), kvec_dot hs hk hx hf G m (by omega), kvec_at hs m (by omega) _ fun i hi => pat_inj hs (by omega) (by omega) (by omega), if_neg (hf m (by omega))]
    unfold psum
    simp only [sm]
    grind
/-- The vectors of the kernel are in the kernel. -/
theorem kvec_ker {g : Nat → Nat → Rat} {h w : Nat} {x : Nat} (hx : x < w) (hf : x ∉ (red g h w).ps) {i : Nat} (hi : i < h) : mulV g (kvec (red g h w) x (red g h w).ps.length) w i = 0 := by
  have hJ := red_J (g := g) (h := h) w
  have hf' : ∀ i, i < (red g h w).ps.length → pat (red g h w).ps i ≠ x := fun i hi e => hf (e ▸ pat_mem hi)
  refine (red_sol (g := g) (y := kvec (red g h w) x (red g h w).ps.length) (n := w) (h := h) w).1 (fun i' hi' => ?_) i hi
  unfold rd
  rw [kvec_dot hJ (Nat.le_refl _) hx hf' _ _ (Nat.le_refl _), psum_row hJ hi']
  split
  · grind
  · rw [hJ.z i' x (by omega) hi' hx]; grind
/-- The last place that is not 0 is the free one. -/
theorem kvec_last {g : Nat → Nat → Rat} {h w : Nat} {x c : Nat} (hf : x ∉ (red g h w).ps) (hc : x < c) : kvec (red g h w) x (red g h w).ps.length c = 0 := by
  have hJ := red_J (g := g) (h := h) w
  by_cases he : ∃ i, i < (red g h w).ps.length ∧ pat (red g h w).ps i = c
  · obtain ⟨i, hi, rfl⟩ := he
    rw [kvec_pat hJ _ (Nat.le_refl _) hi, hJ.lead i x hi hc]; grind
  · rw [kvec_at hJ _ (Nat.le_refl _) c fun i hi e => he ⟨i, hi, e⟩, if_neg (by omega)]
theorem kvec_own {g : Nat → Nat → Rat} {h w : Nat} {x : Nat} (hf : x ∉ (red g h w).ps) : kvec (red g h w) x (red g h w).ps.length x = 1 := by
  rw [kvec_at (red_J (g := g) (h := h) w) _ (Nat.le_refl _) x fun i hi e => hf (e ▸ pat_mem hi), if_pos rfl]
/-- A vector and the right side. -/
def ext (x : Nat → Rat) (w c : Nat) : Rat := if c < w then x c else -1
theorem rd_ext {G : Nat → Nat → Rat} {x : Nat → Rat} {w i : Nat} : rd G (ext x w) (w + 1) i = sm (fun c => G i c * x c) w - G i w := by
  unfold rd
  simp only [sm]
  rw [sm_congr (f := fun c => G i c * ext x w c) (g := fun c => G i c * x c) fun c hc => by unfold ext; rw [if_pos hc]]
  unfold ext
  rw [if_neg (Nat.lt_irrefl w)]
  grind
theorem wid_ext {g : Nat → Nat → Rat} {f x : Nat → Rat} {w i : Nat} : rd (wid g f w) (ext x w) (w + 1) i = mulV g x w i - f i := by
  rw [rd_ext]
  have e : wid g f w i w = f i := if_neg (Nat.lt_irrefl w)
  rw [e, sm_congr (f := fun c => wid g f w i c * x c) (g := fun c => g i c * x c) fun c hc => by unfold wid; rw [if_pos hc]]
  rfl
theorem incon_no {g : Nat → Nat → Rat} {w : Nat} : ∀ (t n : Nat), (∀ i, n ≤ i → i < n + t → g i w = 0) → incon g w t n = false
  | 0, _, _ => rfl
  | t + 1, n, h => by
    unfold incon
    rw [if_pos (h n (Nat.le_refl _) (by omega))]
    exact incon_no t (n + 1) fun i h1 h2 => h i (by omega) (by omega)
/-- What a solution says of the reduced rows. -/
theorem sol_red {g : Nat → Nat → Rat} {f x : Nat → Rat} {h w : Nat} : (∀ i, i < h → mulV g x w i = f i) ↔ (∀ i, i < h → sm (fun c => (red (wid g f w) h w).g i c * x c) w = (red (wid g f w) h w).g i w) := by
  have := red_sol (g := wid g f w) (y := ext x w) (n := w + 1) (h := h) w
  constructor
  · intro hh i hi
    have h1 := this.2 (fun i hi => by rw [wid_ext, hh i hi]; grind) i hi
    rw [rd_ext] at h1
    grind
  · intro hh i hi
    have h1 := this.1 (fun i hi => by rw [rd_ext, hh i hi]; grind) i hi
    rw [wid_ext] at h1
    grind
/-- If there is a solution, then Solve finds one. -/
theorem solved_ok {g : Nat → Nat → Rat} {f v : Nat → Rat} {h w : Nat} (hv : ∀ i, i < h → mulV g v w i = f i) : solved g f h w = some (mp (svec (red (wid g f w) h w) w (red (wid g f w) h w).ps.length) w) ∧ ∀ i, i < h → mulV g (svec (red (wid g f w) h w) w (red (wid g f w) h w).ps.length) w i = f i := by
  have hJ := red_J (g := wid g f w) (h := h) w
  have hr := sol_red.1 hv
  have hin : incon (red (wid g f w) h w).g w (h - (red (wid g f w) h w).ps.length) (red (wid g f w) h w).ps.length = false := incon_no _ _ fun i h1 h2 => by
    have hi : i < h := by have := hJ.ph; omega
    rw [← hr i hi]
    exact sm_zero fun c hc => by rw [hJ.z i c h1 hi hc]; grind
  have hz : ∀ i, i < h → ¬ i < (red (wid g f w) h w).ps.length → (red (wid g f w) h w).g i w = 0 := fun i hi hl => by
    rw [← hr i hi]
    exact sm_zero fun c hc => by rw [hJ.z i c (by omega) hi hc]; grind
  refine ⟨?_, ?_⟩
  · unfold solved
    simp only [hin]
    rfl
  · refine sol_red.2 fun i hi => ?_
    rw [svec_dot hJ (Nat.le_refl _) _ _ (Nat.le_refl _), psum_row hJ hi]
    split
    · rfl
    · rename_i hl
      exact (hz i hi hl).symm
/-- As many vectors of the kernel as columns without pivot. -/
theorem kerL_count {h w : Nat} {s : RS} (hs : RJ h w s) : ∀ k, k ≤ w → ∃ m, m ≤ s.ps.length ∧ (∀ i, i < s.ps.length → (i < m ↔ pat s.ps i < k)) ∧ (kerL s w k).length + m = k
  | 0, _ => ⟨0, Nat.zero_le _, fun i _ => by omega, rfl⟩
  | k + 1, hk => by
    obtain ⟨m, h1, h2, h3⟩ := kerL_count hs k (by omega)
    rw [kerL_succ]
    by_cases hm : k ∈ s.ps
    · obtain ⟨i, hi, he⟩ : ∃ i, i < s.ps.length ∧ pat s.ps i = k := by
        obtain ⟨i, hi, he⟩ := List.mem_iff_getElem.1 hm
        exact ⟨i, hi, by unfold pat; rw [List.getD_eq_getElem?_getD, List.getElem?_eq_getElem hi]; exact he⟩
      have him : i = m := by
        have a1 := h2 i hi
        by_cases hlt : m < i
        · have := hs.inc m i hlt hi
          have := h2 m (by omega)
          omega
        · omega
      subst him
      rw [if_pos hm]
      refine ⟨i + 1, by omega, fun j hj => ?_, by omega⟩
      by_cases hji : j < i
      · have := hs.inc j i hji hi; omega
      · by_cases e : j = i
        · subst e; omega
        · have := hs.inc i j (by omega) hj; omega
    · rw [if_neg hm]
      refine ⟨m, h1, fun j hj => ?_, by rw [List.length_append, List.length_singleton]; omega⟩
      have := h2 j hj
      have hne : pat s.ps j ≠ k := fun e => hm (e ▸ pat_mem hj)
      omega
theorem kerL_rank {g : Nat → Nat → Rat} {h w : Nat} : (kerL (red g h w) w w).length + (red g h w).ps.length = w := by
  have hJ := red_J (g := g) (h := h) w
  obtain ⟨m, h1, h2, h3⟩ := kerL_count hJ w (Nat.le_refl _)
  by_cases he : m = (red g h w).ps.length
  · rw [← he]; exact h3
  · have hl : m < (red g h w).ps.length := by omega
    have := (h2 m hl).2 (hJ.pk m hl)
    omega
theorem svec_pat {h k : Nat} {s : RS} (hs : RJ h k s) {w i : Nat} : ∀ m, m ≤ s.ps.length → i < m → svec s w m (pat s.ps i) = s.g i w
  | 0, _, hi => by omega
  | m + 1, hm, hi => by
    unfold svec
    by_cases he : i = m
    · subst he; rw [upd_same]
    · rw [upd_ne (pat_inj hs (by omega) (by omega) he)]
      exact svec_pat hs m (by omega) (by omega)
theorem mem_pat {ps : List Nat} {c : Nat} (h : c ∈ ps) : ∃ i, i < ps.length ∧ pat ps i = c := by
  obtain ⟨i, hi, he⟩ := List.mem_iff_getElem.1 h
  exact ⟨i, hi, by unfold pat; rw [List.getD_eq_getElem?_getD, List.getElem?_eq_getElem hi]; exact he⟩
/-- What is left of a solution, less the one that Solve finds, less the vectors of the kernel. -/
theorem rest_zero {g : Nat → Nat → Rat} {f v : Nat → Rat} {h w c : Nat} (hv : ∀ i, i < h → mulV g v w i = f i) (hc : c < w) : v c - svec (red (wid g f w) h w) w (red (wid g f w) h w).ps.length c - sm (fun j => if j ∈ (red g h w).ps then 0 else v j * kvec (red g h w) j (red g h w).ps.length c) w = 0 := by
  have hJ := red_J (g := g) (h := h) w
  have hJ' := red_J (g := wid g f w) (h := h) w
  obtain ⟨a1, a2⟩ := red_agree (g := wid g f w) (g' := g) (h := h) (w := w) (fun i c hc => by unfold wid; rw [if_pos hc]) w (Nat.le_refl _)
  have hr := sol_red.1 hv
  generalize red (wid g f w) h w = S at *
  generalize red g h w = s at *
  by_cases hm : c ∈ s.ps
  · obtain ⟨i, hi, rfl⟩ := mem_pat hm
    have hi' : i < S.ps.length := by rw [a1]; exact hi
    have hih : i < h := by have := hJ.ph; omega
    have e1 : svec S w S.ps.length (pat s.ps i) = S.g i w := by rw [← a1]; exact svec_pat hJ' _ (Nat.le_refl _) hi'
    have e2 := hr i hih
    rw [sm_congr (g := fun c => s.g i c * v c) fun c hc => by rw [a2 i c hc]] at e2
    have e3 : sm (fun j => s.g i j * v j - 1 * (if j ∈ s.ps then 0 else s.g i j * v j)) w = v (pat s.ps i) := by
      rw [sm_one (p := pat s.ps i) hc fun j hj hne => ?_]
      · rw [if_pos hm, hJ.one i i hi hih, if_pos rfl]; grind
      · by_cases hjm : j ∈ s.ps
        · obtain ⟨i2, hi2, rfl⟩ := mem_pat hjm
          have : i ≠ i2 := fun e => hne (by rw [e])
          rw [if_pos hjm, hJ.one i2 i hi2 hih, if_neg this]; grind
        · rw [if_neg hjm]; grind
    rw [sm_lin] at e3
    have e4 : sm (fun j => if j ∈ s.ps then 0 else v j * kvec s j s.ps.length (pat s.ps i)) w = sm (fun j => (if j ∈ s.ps then 0 else s.g i j * v j) * (-1)) w := sm_congr fun j hj => by
      by_cases hjm : j ∈ s.ps
      · rw [if_pos hjm, if_pos hjm]; grind
      · rw [if_neg hjm, if_neg hjm, kvec_pat hJ _ (Nat.le_refl _) hi]; grind
    rw [e4, sm_scale, e1]
    grind
  · have hne : ∀ i, i < s.ps.length → pat s.ps i ≠ c := fun i hi e => hm (e ▸ pat_mem hi)
    rw [svec_free S.ps.length (Nat.le_refl _) fun i hi => by rw [a1] at hi ⊢; exact hne i hi]
    rw [sm_one (p := c) hc fun j hj hjc => ?_]
    · rw [if_neg hm, kvec_at hJ _ (Nat.le_refl _) c hne, if_pos rfl]; grind
    · by_cases hjm : j ∈ s.ps
      · rw [if_pos hjm]
      · rw [if_neg hjm, kvec_at hJ _ (Nat.le_refl _) c hne, if_neg (by omega)]; grind
end Go.Proofs.Ytkjnngaceacmdaa
