/- Matrices that are not valid; Solve, the program's and the reference's. -/
import Derived.Test.YtkjnngaceacmdaaGreatLG
set_option linter.unusedVariables false
namespace Go.Proofs.YtkjnngaceacmdaaGreat

/-! ### What is not valid -/
/-- Too many rows, too many columns, or a row of another length. -/
def Bad (M : List (List Rat)) : Prop := 64 < M.length ∨ (0 < M.length ∧ (64 < (M.getD 0 []).length ∨ (M.length ≤ 64 ∧ ∃ i, i < M.length ∧ (M.getD i []).length ≠ (M.getD 0 []).length)))
theorem rdL0 {M : List (List Rat)} (h : 0 < M.length) : rdL M 0 = some (M.getD 0 []) := by
  have := rdD (xs := M) (i := 0) [] h
  simpa only [Int.natCast_zero] using this
theorem Bad_l3 {M : List (List Rat)} (h0 : 0 < M.length) (h64 : M.length ≤ 64) {p : Nat} (hp : p < M.length) (hne : (M.getD p []).length ≠ (M.getD 0 []).length) (K : Nat) : ∀ (t i k : Nat), i + t = M.length → i ≤ p → t < k → ∃ y : Nat, F_slices_IndexFunc_Rat_l3 K M (F_matrix_Valid_1 M) k (i : Int) = some (.ret (y : Int))
  | 0, i, k, hi, hip, hk => by omega
  | t + 1, i, k, hi, hip, hk => by
    obtain ⟨k', rfl, _⟩ := fuel hk
    have hl : i < M.length := by omega
    simp only [F_slices_IndexFunc_Rat_l3, dT (show (i : Int) < (M.length : Int) by omega), cT0, rdD (xs := M) (i := i) [] hl, oB, F_matrix_Valid_1, rdL0 h0]
    by_cases he : (M.getD i []).length = (M.getD 0 []).length
    · have hip' : i ≠ p := fun h => hne (h ▸ he)
      obtain ⟨y, hy⟩ := Bad_l3 h0 h64 hp hne K t (i + 1) k' (by omega) (by omega) (by omega)
      refine ⟨y, ?_⟩
      simp only [nF (show ((M.getD i []).length : Int) = ((M.getD 0 []).length : Int) by omega), cF0, ckS (i := i) (by omega), oB]
      exact hy
    · exact ⟨i, by simp only [nT (show ((M.getD i []).length : Int) ≠ ((M.getD 0 []).length : Int) by omega), cT0]⟩
theorem Bad_ok {M : List (List Rat)} (h : Bad M) {K : Nat} (hK : 64 < K) : F_matrix_Valid K M = some false := by
  by_cases h64 : 64 < M.length
  · simp only [F_matrix_Valid, dF (show ¬ (M.length : Int) ≤ 64 by omega), cF0]
  · rcases h with h | ⟨h0, h⟩
    · omega
    · have ec : F_matrix_cols M = some ((M.getD 0 []).length : Int) := by
        simp only [F_matrix_cols, qF (show ¬ (M.length : Int) = 0 by omega), cF0, rdL0 h0, oB]
      by_cases hc : 64 < (M.getD 0 []).length
      · simp only [F_matrix_Valid, dT (show (M.length : Int) ≤ 64 by omega), cT0, ec, oB, dF (show ¬ ((M.getD 0 []).length : Int) ≤ 64 by omega), cF0]
      · rcases h with h | ⟨hl, p, p1, p2⟩
        · omega
        · obtain ⟨y, hy⟩ := Bad_l3 h0 hl p1 p2 K M.length 0 K (by omega) (by omega) (by omega)
          simp only [Int.natCast_zero] at hy
          simp only [F_matrix_Valid, dT (show (M.length : Int) ≤ 64 by omega), cT0, ec, oB, dT (show ((M.getD 0 []).length : Int) ≤ 64 by omega), F_slices_ContainsFunc_Rat, F_slices_IndexFunc_Rat, hy, dT (show (0 : Int) ≤ (y : Int) by omega), Bool.not_true]
theorem ragged_ok {g : Nat → Nat → Rat} {h w : Nat} (hh : h ≤ 5) (hw : w ≤ 5) (hc : Cok h w) {how : Int} (hi : I64 how) : ∃ M, F_gantrylaw09_ragged (mx g h w) how = some M ∧ Bad M ∧ M.length ≤ 65 := by
  obtain ⟨v, v1, v2, v3⟩ := Around_ok hi (m := 3) (by omega)
  have e0 : apL ([] : List (List Rat)) (mx g h w) = some (mx g h w) := by rw [apL_ok (by rw [mx_len, List.length_nil]; omega), List.nil_append]
  by_cases h0 : v = 0
  · have e1 : chk ((w : Int) + 1) = some ((w + 1 : Nat) : Int) := ckN (m := 0) (by omega) (by omega)
    have e2 : apL (mx g h w) [mp (fun _ => (0 : Rat)) w, mp (fun _ => 0) (w + 1)] = some (mx g h w ++ [mp (fun _ => 0) w, mp (fun _ => 0) (w + 1)]) := apL_ok (by rw [mx_len]; simp only [List.length_cons, List.length_nil]; omega)
    have hlen : (mx g h w ++ [mp (fun _ => (0 : Rat)) w, mp (fun _ => 0) (w + 1)]).length = h + 2 := by rw [List.length_append, mx_len]; rfl
    refine ⟨mx g h w ++ [mp (fun _ => (0 : Rat)) w, mp (fun _ => 0) (w + 1)], by simp only [F_gantrylaw09_ragged, e0, v1, oB, qT h0, cT0, rcols_ok hc, mkMp (n := w) (z := (0 : Rat)) (by omega), e1, mkMp (n := w + 1) (z := (0 : Rat)) (by omega), e2], .inr ⟨by omega, .inr ⟨by omega, h + 1, by omega, ?_⟩⟩, by omega⟩
    have a1 : (mx g h w ++ [mp (fun _ => (0 : Rat)) w, mp (fun _ => 0) (w + 1)]).getD (h + 1) [] = mp (fun _ => 0) (w + 1) := by
      rw [List.getD_eq_getElem?_getD, List.getElem?_append_right (by rw [mx_len]; omega), mx_len, show h + 1 - h = 1 by omega]; rfl
    have a0 : ((mx g h w ++ [mp (fun _ => (0 : Rat)) w, mp (fun _ => 0) (w + 1)]).getD 0 []).length = w := by
      by_cases hz : h = 0
      · subst hz
        show (mp (fun _ => (0 : Rat)) w).length = w
        rw [mp_len]
      · rw [List.getD_eq_getElem?_getD, List.getElem?_append_left (by rw [mx_len]; omega)]
        unfold mx
        rw [mp_get (show 0 < h by omega)]
        show (mp (g 0) w).length = w
        rw [mp_len]
    rw [a1, a0, mp_len]; omega
  · by_cases h1 : v = 1
    · have e1 : mkL 65 ([] : List Rat) = some (List.replicate 65 []) := mkL_ok (n := 65) (by omega)
      exact ⟨List.replicate 65 [], by simp only [F_gantrylaw09_ragged, e0, v1, oB, qF h0, cF0, qT h1, cT0, e1], .inl (by simp), by simp⟩
    · have e1 : mkL 65 (0 : Rat) = some (List.replicate 65 0) := mkL_ok (n := 65) (by omega)
      exact ⟨[List.replicate 65 0], by simp only [F_gantrylaw09_ragged, e0, v1, oB, qF h0, cF0, qF h1, e1], .inr ⟨by simp, .inl (by simp)⟩, by simp⟩

/-! ### Solve -/
/-- A matrix with a column more. -/
def wid (g : Nat → Nat → Rat) (f : Nat → Rat) (w i c : Nat) : Rat := if c < w then g i c else f i
theorem wid_row {g : Nat → Nat → Rat} {f : Nat → Rat} {w i : Nat} : mp (g i) w ++ [f i] = mp (wid g f w i) (w + 1) := by
  rw [mp_succ]
  have e : wid g f w i w = f i := if_neg (Nat.lt_irrefl w)
  rw [e, mp_congr (f := wid g f w i) (g := g i) fun c hc => if_pos hc]
theorem wid_bd {g : Nat → Nat → Rat} {f : Nat → Rat} {h w b : Nat} (hg : Bdx h w b g) (hf : ∀ i, i < h → Bd b (f i)) : Bdx h (w + 1) b (wid g f w) := fun i c hi hc => by
  unfold wid
  split
  · exact hg i c hi ‹_›
  · exact hf i hi
theorem Solve_l29 {g : Nat → Nat → Rat} {f : Nat → Rat} {h w : Nat} (hh : h ≤ 64) (hw : w ≤ 64) (K : Nat) : ∀ (t i k : Nat), i + t = h → t < k → F_matrix_Solve_l29 K (mx g h w) (mp f h) k (mx (wid g f w) i (w + 1)) (i : Int) = some (mx (wid g f w) h (w + 1))
  | 0, i, k, hi, hk => by
    obtain ⟨k', rfl, _⟩ := fuel hk
    have : i = h := by omega
    subst this
    simp only [F_matrix_Solve_l29, mx_len, dF (show ¬ (i : Int) < (i : Int) by omega), cF0]
  | t + 1, i, k, hi, hk => by
    obtain ⟨k', rfl, _⟩ := fuel hk
    have e2 : apL ([] : List Rat) (mp (g i) w) = some (mp (g i) w) := by rw [apL_ok (by rw [mp_len, List.length_nil]; omega), List.nil_append]
    have e3 : apL (mp (g i) w) [f i] = some (mp (wid g f w i) (w + 1)) := by rw [apS (by rw [mp_len]; omega), wid_row]
    have e4 : apL (mx (wid g f w) i (w + 1)) [mp (wid g f w i) (w + 1)] = some (mx (wid g f w) (i + 1) (w + 1)) := apM (g := fun i => mp (wid g f w i) (w + 1)) (by omega)
    simp only [F_matrix_Solve_l29, mx_len, dT (show (i : Int) < (h : Int) by omega), cT0, rdMx (g := g) (w := w) (show i < h by omega), oB, F_slices_Clone_Rat, e2, rdMp (f := f) (show i < h by omega), e3, e4, ckS (i := i) (by omega)]
    exact Solve_l29 hh hw K t (i + 1) k' (by omega) (by omega)
theorem rSolve_l25 {f : Nat → Rat} {h : Nat} (hh : h ≤ 64) (K : Nat) : ∀ (t i k : Nat), i + t = h → t < k → F_gantryref09_Solve_l25 K (mp f h) k (mp (fun i => [f i]) i) (i : Int) = some (mp (fun i => [f i]) h)
  | 0, i, k, hi, hk => by
    obtain ⟨k', rfl, _⟩ := fuel hk
    have : i = h := by omega
    subst this
    simp only [F_gantryref09_Solve_l25, mp_len, dF (show ¬ (i : Int) < (i : Int) by omega), cF0]
  | t + 1, i, k, hi, hk => by
    obtain ⟨k', rfl, _⟩ := fuel hk
    simp only [F_gantryref09_Solve_l25, mp_len, dT (show (i : Int) < (h : Int) by omega), cT0, rdMp (f := f) (show i < h by omega), oB, apM (g := fun i => [f i]) (i := i) (by omega), ckS (i := i) (by omega)]
    exact rSolve_l25 hh K t (i + 1) k' (by omega) (by omega)
theorem joined_l23 {g : Nat → Nat → Rat} {f : Nat → Rat} {h w : Nat} (hh : h ≤ 64) (hw : w ≤ 64) (K : Nat) : ∀ (t i k : Nat), i + t = h → t < k → F_gantryref09_joined_l23 K (mx g h w) (mp (fun i => [f i]) h) k (mx (wid g f w) i (w + 1)) (i : Int) = some (mx (wid g f w) h (w + 1))
  | 0, i, k, hi, hk => by
    obtain ⟨k', rfl, _⟩ := fuel hk
    have : i = h := by omega
    subst this
    simp only [F_gantryref09_joined_l23, mx_len, dF (show ¬ (i : Int) < (i : Int) by omega), cF0]
  | t + 1, i, k, hi, hk => by
    obtain ⟨k', rfl, _⟩ := fuel hk
    have e2 : apL ([] : List Rat) (mp (g i) w) = some (mp (g i) w) := by rw [apL_ok (by rw [mp_len, List.length_nil]; omega), List.nil_append]
    have e3 : apL (mp (g i) w) [f i] = some (mp (wid g f w i) (w + 1)) := by rw [apS (by rw [mp_len]; omega), wid_row]
    have e4 : apL (mx (wid g f w) i (w + 1)) [mp (wid g f w i) (w + 1)] = some (mx (wid g f w) (i + 1) (w + 1)) := apM (g := fun i => mp (wid g f w i) (w + 1)) (by omega)
    simp only [F_gantryref09_joined_l23, mx_len, dT (show (i : Int) < (h : Int) by omega), cT0, rdMx (g := g) (w := w) (show i < h by omega), oB, e2, rdMp (f := fun i => [f i]) (show i < h by omega), e3, e4, ckS (i := i) (by omega)]
    exact joined_l23 hh hw K t (i + 1) k' (by omega) (by omega)
/-- Is there a row without pivot whose last number is not 0? -/
def incon (g : Nat → Nat → Rat) (w : Nat) : Nat → Nat → Bool
  | 0, _ => false
  | t + 1, i => if g i w = 0 then incon g w t (i + 1) else true
theorem Solve_l38 {g : Nat → Nat → Rat} {h w b n : Nat} (hg : Bdx h (w + 1) b g) (hb : b ≤ 1073741824) (hh : h ≤ 1000) (hn : n ≤ h) (K : Nat) : ∀ (t i k : Nat), n + i + t = h → t < k → F_matrix_Solve_l38 K (w : Int) (mp (fun j => mp (g (n + j)) (w + 1)) (h - n)) k (i : Int) = some (if incon g w t (n + i) = true then .ret ([], 6) else .go ())
  | 0, i, k, hi, hk => by
    obtain ⟨k', rfl, _⟩ := fuel hk
    simp only [F_matrix_Solve_l38, mp_len, dF (show ¬ (i : Int) < ((h - n : Nat) : Int) by omega), cF0, incon]
    rfl
  | t + 1, i, k, hi, hk => by
    obtain ⟨k', rfl, _⟩ := fuel hk
    have hx := hg (n + i) w (by omega) (by omega)
    simp only [F_matrix_Solve_l38, mp_len, dT (show (i : Int) < ((h - n : Nat) : Int) by omega), cT0, rdMp (f := fun j => mp (g (n + j)) (w + 1)) (show i < h - n by omega), oB, rdMp (f := g (n + i)) (show w < w + 1 by omega), qsgn_ok hx hb, incon]
    by_cases hz : g (n + i) w = 0
    · simp only [nF (sgn0.2 hz), cF0, if_pos hz, ckS (i := i) (by omega), oB]
      exact Solve_l38 hg hb hh hn K t (i + 1) k' (by omega) (by omega)
    · simp only [nT (fun h => hz (sgn0.1 h)), cT0, if_neg hz, if_true]
theorem rSolve_l33 {g : Nat → Nat → Rat} {h w b : Nat} {ps : List Int} (hg : Bdx h (w + 1) b g) (hb : b ≤ 1073741824) (hh : h ≤ 1000) (K : Nat) : ∀ (t i k : Nat), i + t = h → t < k → F_gantryref09_Solve_l33 K (w : Int) (mx g h (w + 1), ps) k (i : Int) = some (if incon g w t i = true then .ret ([], false) else .go ())
  | 0, i, k, hi, hk => by
    obtain ⟨k', rfl, _⟩ := fuel hk
    simp only [F_gantryref09_Solve_l33, mx_len, dF (show ¬ (i : Int) < (h : Int) by omega), cF0, incon]
    rfl
  | t + 1, i, k, hi, hk => by
    obtain ⟨k', rfl, _⟩ := fuel hk
    have hx := hg i w (by omega) (by omega)
    simp only [F_gantryref09_Solve_l33, mx_len, dT (show (i : Int) < (h : Int) by omega), cT0, rdMx (g := g) (w := w + 1) (show i < h by omega), oB, rdMp (f := g i) (show w < w + 1 by omega), qsgn_ok hx hb, incon]
    by_cases hz : g i w = 0
    · simp only [nF (sgn0.2 hz), cF0, if_pos hz, ckS (i := i) (by omega), oB]
      exact rSolve_l33 hg hb hh K t (i + 1) k' (by omega) (by omega)
    · simp only [nT (fun h => hz (sgn0.1 h)), cT0, if_neg hz, if_true]
/-- The solution, after m pivots. -/
def svec (s : RS) (w : Nat) : Nat → Nat → Rat
  | 0 => fun _ => 0
  | m + 1 => upd (svec s w m) (pat s.ps m) (s.g m w)
theorem svec_bd {s : RS} {h w b : Nat} (hb : Bdx h (w + 1) b s.g) (h1 : 1 ≤ b) (hp : s.ps.length ≤ h) : ∀ m, m ≤ s.ps.length → ∀ c, Bd b (svec s w m c)
  | 0, _, c => Bd.zero.mono h1
  | m + 1, hm, c => by
    unfold svec upd
    split
    · exact hb m w (by omega) (by omega)
    · exact svec_bd hb h1 hp m (by omega) c
theorem Solve_l65 {s : RS} {h w : Nat} (hp : s.ps.length ≤ h) (hh : h ≤ 1000) (hpw : ∀ j ∈ s.ps, j < w) (d : Rat) (K : Nat) : ∀ (t i k : Nat), i + t = s.ps.length → t < k → F_matrix_Solve_l65 K (w : Int) ⟨mx s.g h (w + 1), ints s.ps, d⟩ k (mp (svec s w i) w) (i : Int) = some (mp (svec s w s.ps.length) w)
  | 0, i, k, hi, hk => by
    obtain ⟨k', rfl, _⟩ := fuel hk
    have : i = s.ps.length := by omega
    subst this
    simp only [F_matrix_Solve_l65, ints_len, dF (show ¬ (s.ps.length : Int) < (s.ps.length : Int) by omega), cF0]
  | t + 1, i, k, hi, hk => by
    obtain ⟨k', rfl, _⟩ := fuel hk
    have hl : i < s.ps.length := by omega
    have hw' := hpw _ (pat_mem hl)
    simp only [F_matrix_Solve_l65, ints_len, dT (show (i : Int) < (s.ps.length : Int) by omega), cT0, rdI hl, oB, rdMx (g := s.g) (w := w + 1) (show i < h by omega), rdMp (f := s.g i) (show w < w + 1 by omega), rdMp (f := svec s w i) hw', stMp (f := svec s w i) hw', ckS (i := i) (by omega)]
    exact Solve_l65 hp hh hpw d K t (i + 1) k' (by omega) (by omega)
theorem rSolve_l60 {s : RS} {h w : Nat} (hp : s.ps.length ≤ h) (hh : h ≤ 1000) (hpw : ∀ j ∈ s.ps, j < w) (K : Nat) : ∀ (t i k : Nat), i + t = s.ps.length → t < k → F_gantryref09_Solve_l60 K (w : Int) (mx s.g h (w + 1), ints s.ps) k (mp (svec s w i) w) (i : Int) = some (mp (svec s w s.ps.length) w)
  | 0, i, k, hi, hk => by
    obtain ⟨k', rfl, _⟩ := fuel hk
    have : i = s.ps.length := by omega
    subst this
    simp only [F_gantryref09_Solve_l60, ints_len, dF (show ¬ (s.ps.length : Int) < (s.ps.length : Int) by omega), cF0]
  | t + 1, i, k, hi, hk => by
    obtain ⟨k', rfl, _⟩ := fuel hk
    have hl : i < s.ps.length := by omega
    have hw' := hpw _ (pat_mem hl)
    simp only [F_gantryref09_Solve_l60, ints_len, dT (show (i : Int) < (s.ps.length : Int) by omega), cT0, rdI hl, oB, rdMx (g := s.g) (w := w + 1) (show i < h by omega), rdMp (f := s.g i) (show w < w + 1 by omega), rdMp (f := svec s w i) hw', stMp (f := svec s w i) hw', ckS (i := i) (by omega)]
    exact rSolve_l60 hp hh hpw K t (i + 1) k' (by omega) (by omega)
/-- What Solve returns. -/
def solved (g : Nat → Nat → Rat) (f : Nat → Rat) (h w : Nat) : Option (List Rat) :=
  let s := red (wid g f w) h w
  if incon s.g w (h - s.ps.length) s.ps.length = true then none else some (mp (svec s w s.ps.length) w)
theorem Solve_ok {g : Nat → Nat → Rat} {f : Nat → Rat} {h w b : Nat} (hg : Bdx h w b g) (hf : ∀ i, i < h → Bd b (f i)) (hc : Cok h w) (hb : 2 ≤ b) (hB : 5 ^ w * b ≤ 200000000) (hh : h ≤ 64) (hw : w ≤ 63) {K : Nat} (hK : w + 1 + h < K) :
    F_matrix_Solve K (mx g h w) (mp f h) = some (match solved g f h w with | none => ([], 6) | some x => (x, 0)) ∧ F_gantryref09_Solve K (mx g h w) (mp f h) = some (match solved g f h w with | none => ([], false) | some x => (x, true)) ∧ ∀ x, solved g f h w = some x → x.length = w ∧ Bds (5 ^ w * b) x := by
  have hgw := wid_bd hg hf
  have r := red_ok hgw hb w (by omega)
  have h29 := Solve_l29 (g := g) (f := f) hh (show w ≤ 64 by omega) K h 0 K (by omega) (by omega)
  have h25 := rSolve_l25 (f := f) hh K h 0 K (by omega) (by omega)
  have h23 := joined_l23 (g := g) (f := f) hh (show w ≤ 64 by omega) K h 0 K (by omega) (by omega)
  have z1 : mx (wid g f w) 0 (w + 1) = [] := rfl
  rw [z1] at h29 h23
  simp only [Int.natCast_zero, mp_zero] at h29 h25 h23
  have hrd := reduce_ok hgw hb (show w ≤ w + 1 by omega) hB (show h ≤ 1000 by omega) (show w + 1 ≤ 1000 by omega) (K := K) (by omega)
  have hrr := Reduced_ok hgw hb (show w ≤ w + 1 by omega) hB (show h ≤ 1000 by omega) (show w + 1 ≤ 1000 by omega) (K := K) (by omega)
  have hpk : ∀ j ∈ (red (wid g f w) h w).ps, j < w := r.pk
  have hbig : 5 ^ w * b ≤ 1073741824 := by omega
  unfold solved
  generalize red (wid g f w) h w = s at *
  have hp := r.ph
  have h38 := Solve_l38 r.bd hbig (show h ≤ 1000 by omega) hp K (h - s.ps.length) 0 K (by omega) (by omega)
  have h33 := rSolve_l33 (ps := ints s.ps) r.bd hbig (show h ≤ 1000 by omega) K (h - s.ps.length) s.ps.length K (by omega) (by omega)
  have h65 := Solve_l65 hp (show h ≤ 1000 by omega) hpk s.d K s.ps.length 0 K (by omega) (by omega)
  have h60 := rSolve_l60 hp (show h ≤ 1000 by omega) hpk K s.ps.length 0 K (by omega) (by omega)
  simp only [Int.natCast_zero, Nat.add_zero, svec] at h38 h65 h60
  have hsl : slL (mx s.g h (w + 1)) (s.ps.length : Int) (h : Int) = some (mp (fun j => mp (s.g (s.ps.length + j)) (w + 1)) (h - s.ps.length)) := slMp (f := fun j => mp (s.g j) (w + 1)) hp
  refine ⟨?_, ?_, ?_⟩
  · simp only [F_matrix_Solve, Valid_ok hc hh (show w ≤ 64 by omega) (K := K) (by omega), oB, Bool.not_true, cF0, mp_len, mx_len, nF (rfl : (h : Int) = (h : Int)), cols_ok hc, h29, F_matrix_Solve_j30, hrd, ints_len, hsl, h38]
    by_cases hin : incon s.g w (h - s.ps.length) s.ps.length = true
    · simp only [if_pos hin]
    · simp only [if_neg hin, F_matrix_Solve_j39, mkMp (n := w) (z := (0 : Rat)) (by omega), oB, h65, F_matrix_Solve_j66]
  · simp only [F_gantryref09_Solve, rcols_ok hc, oB, h25, F_gantryref09_Solve_j26, F_gantryref09_joined, h23, F_gantryref09_joined_j24, hrr, ints_len, h33]
    by_cases hin : incon s.g w (h - s.ps.length) s.ps.length = true
    · simp only [if_pos hin]
    · simp only [if_neg hin, F_gantryref09_Solve_j34, mkMp (n := w) (z := (0 : Rat)) (by omega), oB, h60, F_gantryref09_Solve_j61]
  · intro x hx
    by_cases hin : incon s.g w (h - s.ps.length) s.ps.length = true
    · simp only [if_pos hin] at hx; cases hx
    · simp only [if_neg hin, Option.some.injEq] at hx
      subst hx
      exact ⟨mp_len _ _, mp_bds fun i _ => svec_bd r.bd (by have := pow_pos5 w b hb; omega) hp _ (Nat.le_refl _) i⟩
theorem Solve_len {g : Nat → Nat → Rat} {h w : Nat} {b : List Rat} (hc : Cok h w) (hh : h ≤ 64) (hw : w ≤ 64) (hb : b.length ≠ h) {K : Nat} (hK : h < K) : F_matrix_Solve K (mx g h w) b = some ([], 1) := by
  simp only [F_matrix_Solve, Valid_ok hc hh hw hK, oB, Bool.not_true, cF0, mx_len, nT (show (b.length : Int) ≠ (h : Int) by omega), cT0]
theorem Solve_bad {M : List (List Rat)} {b : List Rat} (hM : Bad M) {K : Nat} (hK : 64 < K) : F_matrix_Solve K M b = some ([], 1) := by
  simp only [F_matrix_Solve, Bad_ok hM hK, oB, Bool.not_false, cT0]
theorem Kernel_bad {M : List (List Rat)} (hM : Bad M) {K : Nat} (hK : 64 < K) : F_matrix_Kernel K M = some ([], 1) := by
  simp only [F_matrix_Kernel, Bad_ok hM hK, oB, Bool.not_false, cT0]
end Go.Proofs.YtkjnngaceacmdaaGreat
