/- Kernel, the program's and the reference's; Valid and Same. -/
import Derived.Test.YtkjnngaceacmdaaMB
set_option linter.unusedVariables false
namespace Go.Proofs.Ytkjnngaceacmdaa

/-- A list of numbers read by index. -/
def pat (ps : List Nat) (i : Nat) : Nat := ps.getD i 0
theorem pat_mem {ps : List Nat} {i : Nat} (h : i < ps.length) : pat ps i ∈ ps := by
  unfold pat
  simp only [List.getD_eq_getElem?_getD, List.getElem?_eq_getElem h, Option.getD_some]
  exact List.getElem_mem h
theorem rdI {ps : List Nat} {i : Nat} (h : i < ps.length) : rdL (ints ps) (i : Int) = some ((pat ps i : Nat) : Int) := by
  refine rdG ?_
  unfold ints pat
  rw [List.getElem?_map, List.getD_eq_getElem?_getD, List.getElem?_eq_getElem h]; rfl
theorem drop_pat {ps : List Nat} {i : Nat} (h : i < ps.length) : ps.drop i = pat ps i :: ps.drop (i + 1) := by
  unfold pat
  rw [List.drop_eq_getElem_cons h, List.getD_eq_getElem?_getD, List.getElem?_eq_getElem h]; rfl
theorem drop_nil {ps : List Nat} {i : Nat} (h : ps.length ≤ i) : ps.drop i = [] := List.drop_eq_nil_of_le h
theorem Index_l3 {ps : List Nat} {x : Nat} (hp : ps.length ≤ 1000) (K : Nat) : ∀ (t i k : Nat), i + t = ps.length → t < k → (x ∈ ps.drop i ∧ ∃ y : Nat, F_slices_Index_int_l3 K (ints ps) (x : Int) k (i : Int) = some (.ret (y : Int))) ∨ (x ∉ ps.drop i ∧ F_slices_Index_int_l3 K (ints ps) (x : Int) k (i : Int) = some (.go ()))
  | 0, i, k, hi, hk => by
    obtain ⟨k', rfl, _⟩ := fuel hk
    refine .inr ⟨by rw [drop_nil (by omega)]; exact List.not_mem_nil, ?_⟩
    simp only [F_slices_Index_int_l3, ints_len, dF (show ¬ (i : Int) < (ps.length : Int) by omega), cF0]
  | t + 1, i, k, hi, hk => by
    obtain ⟨k', rfl, _⟩ := fuel hk
    have hl : i < ps.length := by omega
    rw [drop_pat hl]
    simp only [F_slices_Index_int_l3, ints_len, dT (show (i : Int) < (ps.length : Int) by omega), cT0, rdI hl, oB]
    by_cases he : x = pat ps i
    · exact .inl ⟨by rw [he]; exact List.mem_cons_self, i, by simp only [qT (show (x : Int) = (pat ps i : Nat) by omega), cT0]⟩
    · simp only [qF (show ¬ (x : Int) = (pat ps i : Nat) by omega), cF0, ckS (i := i) (by omega), oB]
      rcases Index_l3 hp K t (i + 1) k' (by omega) (by omega) with ⟨h1, h2⟩ | ⟨h1, h2⟩
      · exact .inl ⟨List.mem_cons_of_mem _ h1, h2⟩
      · exact .inr ⟨fun h => by rcases List.mem_cons.1 h with h | h; exact he h; exact h1 h, h2⟩
theorem Contains_ok {ps : List Nat} {x : Nat} (hp : ps.length ≤ 1000) {K : Nat} (hK : ps.length < K) : F_slices_Contains_int K (ints ps) (x : Int) = some (decide (x ∈ ps)) := by
  have := Index_l3 (x := x) hp K ps.length 0 K (by omega) hK
  simp only [Int.natCast_zero, List.drop_zero] at this
  rcases this with ⟨h1, y, h2⟩ | ⟨h1, h2⟩
  · simp only [F_slices_Contains_int, F_slices_Index_int, h2, oB, decide_eq_true h1, dT (show (0 : Int) ≤ (y : Int) by omega)]
  · simp only [F_slices_Contains_int, F_slices_Index_int, h2, oB, decide_eq_false h1, F_slices_Index_int_j4]
    rfl
/-- The vector for the free column k, after m pivots. -/
def kvec (s : RS) (k : Nat) : Nat → Nat → Rat
  | 0 => upd (fun _ => 0) k 1
  | m + 1 => upd (kvec s k m) (pat s.ps m) (-(s.g m k))
def kerL (s : RS) (w : Nat) : Nat → List (List Rat)
  | 0 => []
  | k + 1 => if k ∈ s.ps then kerL s w k else kerL s w k ++ [mp (kvec s k s.ps.length) w]
theorem kerL_succ (s : RS) (w k : Nat) : kerL s w (k + 1) = if k ∈ s.ps then kerL s w k else kerL s w k ++ [mp (kvec s k s.ps.length) w] := rfl
theorem kerL_len (s : RS) (w : Nat) : ∀ k, (kerL s w k).length ≤ k
  | 0 => Nat.le_refl _
  | k + 1 => by
    have := kerL_len s w k
    unfold kerL
    split
    · omega
    · rw [List.length_append, List.length_singleton]; omega
theorem kvec_bd {s : RS} {h w b k : Nat} (hb : Bdx h w b s.g) (h2 : 2 ≤ b) (hk : k < w) (hp : s.ps.length ≤ h) : ∀ m, m ≤ s.ps.length → ∀ c, Bd b (kvec s k m c)
  | 0, _, c => by
    unfold kvec upd
    split
    · exact (show Bd 2 1 by constructor <;> decide).mono h2
    · exact Bd.zero.mono (by omega)
  | m + 1, hm, c => by
    unfold kvec upd
    split
    · exact (hb m k (by omega) hk).neg
    · exact kvec_bd hb h2 hk hp m (by omega) c
/-- What the loops know of a state. -/
structure RK (h w b : Nat) (s : RS) : Prop where
  ph : s.ps.length ≤ h
  pk : ∀ j, j ∈ s.ps → j < w
  bd : Bdx h w b s.g
  b2 : 2 ≤ b
  bB : b ≤ 1073741824
  hh : h ≤ 1000
  hw : w ≤ 1000
theorem Kernel_l71 {s : RS} {h w b x : Nat} (r : RK h w b s) (hx : x < w) (d : Rat) (K : Nat) : ∀ (t i k : Nat), i + t = s.ps.length → t < k → F_matrix_Kernel_l71 K ⟨mx s.g h w, ints s.ps, d⟩ (x : Int) k (mp (kvec s x i) w) (i : Int) = some (mp (kvec s x s.ps.length) w)
  | 0, i, k, hi, hk => by
    obtain ⟨k', rfl, _⟩ := fuel hk
    have : i = s.ps.length := by omega
    subst this
    simp only [F_matrix_Kernel_l71, ints_len, dF (show ¬ (s.ps.length : Int) < (s.ps.length : Int) by omega), cF0]
  | t + 1, i, k, hi, hk => by
    obtain ⟨k', rfl, _⟩ := fuel hk
    have hl : i < s.ps.length := by omega
    have hh := r.hh
    have hp := r.ph
    have hpw := r.pk _ (pat_mem hl)
    simp only [F_matrix_Kernel_l71, ints_len, dT (show (i : Int) < (s.ps.length : Int) by omega), cT0, rdI hl, oB, rdMx (g := s.g) (w := w) (show i < h by omega), rdMp (f := s.g i) hx, qneg_ok (r.bd i x (by omega) hx) r.bB, rdMp (f := kvec s x i) hpw, stMp (f := kvec s x i) hpw, ckS (i := i) (by omega)]
    exact Kernel_l71 r hx d K t (i + 1) k' (by omega) (by omega)
theorem Kernel_l31 {s : RS} {h w b : Nat} (r : RK h w b s) (d : Rat) {K : Nat} (hK : s.ps.length < K) : ∀ (t i k : Nat), i + t = w → t < k → F_matrix_Kernel_l31 K (w : Int) ⟨mx s.g h w, ints s.ps, d⟩ k (kerL s w i) (i : Int) = some (kerL s w w)
  | 0, i, k, hi, hk => by
    obtain ⟨k', rfl, _⟩ := fuel hk
    have : i = w := by omega
    subst this
    simp only [F_matrix_Kernel_l31, dF (show ¬ (i : Int) < (i : Int) by omega), cF0]
  | t + 1, i, k, hi, hk => by
    obtain ⟨k', rfl, _⟩ := fuel hk
    have hl : i < w := by omega
    have hh := r.hh
    have hw := r.hw
    have hp := r.ph
    have ih := Kernel_l31 r d hK t (i + 1) k' (by omega) (by omega)
    have hlen := kerL_len s w i
    rw [kerL_succ] at ih
    simp only [F_matrix_Kernel_l31, dT (show (i : Int) < (w : Int) by omega), cT0, Contains_ok (x := i) (ps := s.ps) (by omega) hK, oB]
    by_cases hm : i ∈ s.ps
    · simp only [decide_eq_true hm, cT0, ckS (i := i) (by omega), oB]
      rw [if_pos hm] at ih
      exact ih
    · rw [if_neg hm] at ih
      have h71 := Kernel_l71 r hl d K s.ps.length 0 K (by omega) hK
      simp only [Int.natCast_zero, kvec] at h71
      simp only [decide_eq_false hm, cF0, mkMp (z := (0 : Rat)) (n := w) (by omega), oB, qof11, rdMp (f := fun _ => (0 : Rat)) hl, stMp (f := fun _ => (0 : Rat)) hl, h71, F_matrix_Kernel_j72, apS (xs := kerL s w i) (x := mp (kvec s i s.ps.length) w) (by omega), ckS (i := i) (by omega)]
      exact ih
theorem RI.rk {h w b n : Nat} {s : RS} (r : RI h w b n s) (hn : n ≤ w) (hb : 2 ≤ b) (hB : 5 ^ n * b ≤ 200000000) (hh : h ≤ 1000) (hw : w ≤ 1000) : RK h w (5 ^ n * b) s :=
  ⟨r.ph, fun j hj => Nat.lt_of_lt_of_le (r.pk j hj) hn, r.bd, pow_pos5 n b hb, by omega, hh, hw⟩
/-- A matrix without rows has no columns. -/
def Cok (h w : Nat) : Prop := h = 0 → w = 0
theorem cols_ok {g : Nat → Nat → Rat} {h w : Nat} (hc : Cok h w) : F_matrix_cols (mx g h w) = some (w : Int) := by
  by_cases h0 : h = 0
  · subst h0
    rw [hc rfl]; rfl
  · have r0 := rdMx (g := g) (w := w) (show 0 < h by omega)
    simp only [Int.natCast_zero] at r0
    simp only [F_matrix_cols, mx_len, qF (show ¬ (h : Int) = 0 by omega), cF0, r0, oB, mp_len]
theorem Valid_l3 {g : Nat → Nat → Rat} {h w : Nat} (hh : h ≤ 1000) (K : Nat) : ∀ (t i k : Nat), i + t = h → t < k → F_slices_IndexFunc_Rat_l3 K (mx g h w) (F_matrix_Valid_1 (mx g h w)) k (i : Int) = some (.go ())
  | 0, i, k, hi, hk => by
    obtain ⟨k', rfl, _⟩ := fuel hk
    simp only [F_slices_IndexFunc_Rat_l3, mx_len, dF (show ¬ (i : Int) < (h : Int) by omega), cF0]
  | t + 1, i, k, hi, hk => by
    obtain ⟨k', rfl, _⟩ := fuel hk
    have r0 := rdMx (g := g) (w := w) (show 0 < h by omega)
    simp only [Int.natCast_zero] at r0
    simp only [F_slices_IndexFunc_Rat_l3, mx_len, dT (show (i : Int) < (h : Int) by omega), cT0, rdMx (g := g) (w := w) (show i < h by omega), oB, F_matrix_Valid_1, r0, mp_len, nF (rfl : (w : Int) = (w : Int)), cF0, ckS (i := i) (by omega)]
    exact Valid_l3 hh K t (i + 1) k' (by omega) (by omega)
theorem Valid_ok {g : Nat → Nat → Rat} {h w : Nat} (hc : Cok h w) (hh : h ≤ 64) (hw : w ≤ 64) {K : Nat} (hK : h < K) : F_matrix_Valid K (mx g h w) = some true := by
  have := Valid_l3 (g := g) (w := w) (show h ≤ 1000 by omega) K h 0 K (by omega) hK
  simp only [Int.natCast_zero] at this
  simp only [F_matrix_Valid, mx_len, dT (show (h : Int) ≤ 64 by omega), cT0, cols_ok hc, oB, dT (show (w : Int) ≤ 64 by omega), F_slices_ContainsFunc_Rat, F_slices_IndexFunc_Rat, this, F_slices_IndexFunc_Rat_j4]
  rfl
theorem Kernel_ok {g : Nat → Nat → Rat} {h w b : Nat} (hg : Bdx h w b g) (hc : Cok h w) (hb : 2 ≤ b) (hB : 5 ^ w * b ≤ 200000000) (hh : h ≤ 64) (hw : w ≤ 64) {K : Nat} (hK : w + h < K) : F_matrix_Kernel K (mx g h w) = some (kerL (red g h w) w w, 0) := by
  have r := red_ok hg hb w (Nat.le_refl _)
  have rk := r.rk (Nat.le_refl _) hb hB (by omega) (by omega)
  have h31 := Kernel_l31 rk (red g h w).d (K := K) (by have := r.ph; omega) w 0 K (by omega) (by omega)
  simp only [Int.natCast_zero, kerL] at h31
  simp only [F_matrix_Kernel, Valid_ok hc hh hw (K := K) (by omega), oB, Bool.not_true, cF0, cols_ok hc, reduce_ok hg hb (Nat.le_refl w) hB (show h ≤ 1000 by omega) (show w ≤ 1000 by omega) hK, h31, F_matrix_Kernel_j32]
theorem SameRow_l4 {l : List Rat} {b : Nat} (hl : Bds b l) (hb : b ≤ 1073741824) (hn : l.length ≤ 1000) (K : Nat) : ∀ (t i k : Nat), i + t = l.length → t < k → F_gantryref09_SameRow_l4 K l l k (i : Int) = some (.go ())
  | 0, i, k, hi, hk => by
    obtain ⟨k', rfl, _⟩ := fuel hk
    simp only [F_gantryref09_SameRow_l4, dF (show ¬ (i : Int) < (l.length : Int) by omega), cF0]
  | t + 1, i, k, hi, hk => by
    obtain ⟨k', rfl, _⟩ := fuel hk
    have hx := hl _ (at_mem (l := l) (i := i) (by omega))
    simp only [F_gantryref09_SameRow_l4, dT (show (i : Int) < (l.length : Int) by omega), cT0, rdAt (l := l) (i := i) (by omega), oB, qsame_ok hx hx hb hb, decide_true, Bool.not_true, cF0, ckS (i := i) (by omega)]
    exact SameRow_l4 hl hb hn K t (i + 1) k' (by omega) (by omega)
theorem SameRow_ok {l : List Rat} {b : Nat} (hl : Bds b l) (hb : b ≤ 1073741824) (hn : l.length ≤ 1000) {K : Nat} (hK : l.length < K) : F_gantryref09_SameRow K l l = some true := by
  have := SameRow_l4 hl hb hn K l.length 0 K (by omega) hK
  simp only [Int.natCast_zero] at this
  simp only [F_gantryref09_SameRow, nF (rfl : (l.length : Int) = l.length), cF0, this, oB, F_gantryref09_SameRow_j5]
end Go.Proofs.Ytkjnngaceacmdaa
