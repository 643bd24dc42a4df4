/- Solutions and kernels, in numbers. -/
import Derived.Test.YtkjnngaceacmdaaMR
import Derived.Test.YtkjnngaceacmdaaMS
set_option linter.unusedVariables false
namespace Go.Proofs.Ytkjnngaceacmdaa

theorem sm_upd {G f : Nat → Rat} {p : Nat} {a : Rat} : ∀ {n : Nat}, p < n → sm (fun c => G c * upd f p a c) n = sm (fun c => G c * f c) n + G p * (a - f p)
  | 0, h => by omega
  | n + 1, h => by
    simp only [sm]
    by_cases he : p = n
    · subst he
      rw [sm_congr (f := fun c => G c * upd f p a c) (g := fun c => G c * f c) fun i hi => by rw [upd_ne (by omega)], upd_same]
      grind
    · rw [sm_upd (show p < n by omega), upd_ne (show n ≠ p by omega)]
      grind
/-- The sum over the pivots. -/
def psum (s : RS) (G : Nat → Rat) (a : Nat → Rat) (m : Nat) : Rat := sm (fun i => G (pat s.ps i) * a i) m
theorem pat_inj {h k : Nat} {s : RS} (hs : RJ h k s) {i j : Nat} (hi : i < s.ps.length) (hj : j < s.ps.length) (hne : i ≠ j) : pat s.ps i ≠ pat s.ps j := by
  by_cases h1 : i < j
  · have := hs.inc i j h1 hj; omega
  · have := hs.inc j i (by omega) hi; omega
theorem psum_row {h k : Nat} {s : RS} (hs : RJ h k s) {i' : Nat} (hi : i' < h) (a : Nat → Rat) : psum s (s.g i') a s.ps.length = if i' < s.ps.length then a i' else 0 := by
  unfold psum
  split
  · rename_i hl
    rw [sm_one (p := i') hl fun i hi2 hne => by rw [hs.one i i' hi2 hi, if_neg (by omega)]; grind]
    rw [hs.one i' i' hl hi, if_pos rfl]; grind
  · exact sm_zero fun i hi2 => by rw [hs.one i i' hi2 hi, if_neg (by omega)]; grind
theorem kvec_at {h k : Nat} {s : RS} (hs : RJ h k s) {x : Nat} : ∀ m, m ≤ s.ps.length → ∀ c, (∀ i, i < m → pat s.ps i ≠ c) → kvec s x m c = if c = x then 1 else 0
  | 0, _, c, _ => by
    unfold kvec upd
    split <;> rfl
  | m + 1, hm, c, h => by
    unfold kvec
    rw [upd_ne (fun e => h m (by omega) e.symm)]
    exact kvec_at hs m (by omega) c fun i hi => h i (by omega)
theorem kvec_dot {h w k : Nat} {s : RS} (hs : RJ h k s) (hk : k ≤ w) {x : Nat} (hx : x < w) (hf : ∀ i, i < s.ps.length → pat s.ps i ≠ x) (G : Nat → Rat) : ∀ m, m ≤ s.ps.length → sm (fun c => G c * kvec s x m c) w = G x - psum s G (fun i => s.g i x) m
  | 0, _ => by
    unfold kvec psum
    rw [sm_upd hx, sm_zero fun i _ => by grind]
    simp only [sm]
    grind
  | m + 1, hm => by
    unfold kvec
    rw [sm_upd (by have := hs.pk m (by omega); omega), kvec_dot hs hk hx hf G m (by omega), kvec_at hs m (by omega) _ fun i hi => pat_inj hs (by omega) (by omega) (by omega), if_neg (hf m (by omega))]
    unfold psum
    simp only [sm]
    grind
/-- The vectors of the kernel are in the kernel. -/
theorem kvec_ker {g : Nat → Nat → Rat} {h w : Nat} {x : Nat} (hx : x < w) (hf : x ∉ (red g h w).ps) {i : Nat} (hi : i < h) : mulV g (kvec (red g h w) x (red g h w).ps.length) w i = 0 := by
  have hJ := red_J (g := g) (h := h) w
  have hf' : ∀ i, i < (red g h w).ps.length → pat (red g h w).ps i ≠ x := fun i hi e => hf (e ▸ pat_mem hi)
  refine (red_sol (g := g) (y := kvec (red g h w) x (red g h w).ps.length) (n := w) (h := h) w).1 (fun i' hi' => ?_) i hi
  unfold rd
  rw [kvec_dot hJ (Nat.le_refl _) hx hf' _ _ (Nat.le_refl _), psum_row hJ hi']
  split
  · grind
  · rw [hJ.z i' x (by omega) hi' hx]; grind
theorem kvec_own {g : Nat → Nat → Rat} {h w : Nat} {x : Nat} (hf : x ∉ (red g h w).ps) : kvec (red g h w) x (red g h w).ps.length x = 1 := by
  rw [kvec_at (red_J (g := g) (h := h) w) _ (Nat.le_refl _) x fun i hi e => hf (e ▸ pat_mem hi), if_pos rfl]
/-- A vector and the right side. -/
def ext (x : Nat → Rat) (w c : Nat) : Rat := if c < w then x c else -1
/-- As many vectors of the kernel as columns without pivot. -/
theorem kerL_count {h w : Nat} {s : RS} (hs : RJ h w s) : ∀ k, k ≤ w → ∃ m, m ≤ s.ps.length ∧ (∀ i, i < s.ps.length → (i < m ↔ pat s.ps i < k)) ∧ (kerL s w k).length + m = k
  | 0, _ => ⟨0, Nat.zero_le _, fun i _ => by omega, rfl⟩
  | k + 1, hk => by
    obtain ⟨m, h1, h2, h3⟩ := kerL_count hs k (by omega)
    rw [kerL_succ]
    by_cases hm : k ∈ s.ps
    · obtain ⟨i, hi, he⟩ : ∃ i, i < s.ps.length ∧ pat s.ps i = k := by
        obtain ⟨i, hi, he⟩ := List.mem_iff_getElem.1 hm
        exact ⟨i, hi, by unfold pat; rw [List.getD_eq_getElem?_getD, List.getElem?_eq_getElem hi]; exact he⟩
      have him : i = m := by
        have a1 := h2 i hi
        by_cases hlt : m < i
        · have := hs.inc m i hlt hi
          have := h2 m (by omega)
          omega
        · omega
      subst him
      rw [if_pos hm]
      refine ⟨i + 1, by omega, fun j hj => ?_, by omega⟩
      by_cases hji : j < i
      · have := hs.inc j i hji hi; omega
      · by_cases e : j = i
        · subst e; omega
        · have := hs.inc i j (by omega) hj; omega
    · rw [if_neg hm]
      refine ⟨m, h1, fun j hj => ?_, by rw [List.length_append, List.length_singleton]; omega⟩
      have := h2 j hj
      have hne : pat s.ps j ≠ k := fun e => hm (e ▸ pat_mem hj)
      omega
theorem mem_pat {ps : List Nat} {c : Nat} (h : c ∈ ps) : ∃ i, i < ps.length ∧ pat ps i = c := by
  obtain ⟨i, hi, he⟩ := List.mem_iff_getElem.1 h
  exact ⟨i, hi, by unfold pat; rw [List.getD_eq_getElem?_getD, List.getElem?_eq_getElem hi]; exact he⟩
end Go.Proofs.Ytkjnngaceacmdaa
