/- Matrices that are not valid; Solve, the program's and the reference's. -/
import Derived.Test.YtkjnngaceacmdaaLG
set_option linter.unusedVariables false
namespace Go.Proofs.Ytkjnngaceacmdaa

/-- A matrix with a column more. -/
def wid (g : Nat → Nat → Rat) (f : Nat → Rat) (w i c : Nat) : Rat := if c < w then g i c else f i
theorem wid_row {g : Nat → Nat → Rat} {f : Nat → Rat} {w i : Nat} : mp (g i) w ++ [f i] = mp (wid g f w i) (w + 1) := by
  rw [mp_succ]
  have e : wid g f w i w = f i := if_neg (Nat.lt_irrefl w)
  rw [e, mp_congr (f := wid g f w i) (g := g i) fun c hc => if_pos hc]
theorem wid_bd {g : Nat → Nat → Rat} {f : Nat → Rat} {h w b : Nat} (hg : Bdx h w b g) (hf : ∀ i, i < h → Bd b (f i)) : Bdx h (w + 1) b (wid g f w) := fun i c hi hc => by
  unfold wid
  split
  · exact hg i c hi ‹_›
  · exact hf i hi
theorem Solve_l29 {g : Nat → Nat → Rat} {f : Nat → Rat} {h w : Nat} (hh : h ≤ 64) (hw : w ≤ 64) (K : Nat) : ∀ (t i k : Nat), i + t = h → t < k → F_matrix_Solve_l29 K (mx g h w) (mp f h) k (mx (wid g f w) i (w + 1)) (i : Int) = some (mx (wid g f w) h (w + 1))
  | 0, i, k, hi, hk => by
    obtain ⟨k', rfl, _⟩ := fuel hk
    have : i = h := by omega
    subst this
    simp only [F_matrix_Solve_l29, mx_len, dF (show ¬ (i : Int) < (i : Int) by omega), cF0]
  | t + 1, i, k, hi, hk => by
    obtain ⟨k', rfl, _⟩ := fuel hk
    have e2 : apL ([] : List Rat) (mp (g i) w) = some (mp (g i) w) := by rw [apL_ok (by rw [mp_len, List.length_nil]; omega), List.nil_append]
    have e3 : apL (mp (g i) w) [f i] = some (mp (wid g f w i) (w + 1)) := by rw [apS (by rw [mp_len]; omega), wid_row]
    have e4 : apL (mx (wid g f w) i (w + 1)) [mp (wid g f w i) (w + 1)] = some (mx (wid g f w) (i + 1) (w + 1)) := apM (g := fun i => mp (wid g f w i) (w + 1)) (by omega)
    simp only [F_matrix_Solve_l29, mx_len, dT (show (i : Int) < (h : Int) by omega), cT0, rdMx (g := g) (w := w) (show i < h by omega), oB, F_slices_Clone_Rat, e2, rdMp (f := f) (show i < h by omega), e3, e4, ckS (i := i) (by omega)]
    exact Solve_l29 hh hw K t (i + 1) k' (by omega) (by omega)
/-- Is there a row without pivot whose last number is not 0? -/
def incon (g : Nat → Nat → Rat) (w : Nat) : Nat → Nat → Bool
  | 0, _ => false
  | t + 1, i => if g i w = 0 then incon g w t (i + 1) else true
theorem Solve_l38 {g : Nat → Nat → Rat} {h w b n : Nat} (hg : Bdx h (w + 1) b g) (hb : b ≤ 1073741824) (hh : h ≤ 1000) (hn : n ≤ h) (K : Nat) : ∀ (t i k : Nat), n + i + t = h → t < k → F_matrix_Solve_l38 K (w : Int) (mp (fun j => mp (g (n + j)) (w + 1)) (h - n)) k (i : Int) = some (if incon g w t (n + i) = true then .ret ([], 6) else .go ())
  | 0, i, k, hi, hk => by
    obtain ⟨k', rfl, _⟩ := fuel hk
    simp only [F_matrix_Solve_l38, mp_len, dF (show ¬ (i : Int) < ((h - n : Nat) : Int) by omega), cF0, incon]
    rfl
  | t + 1, i, k, hi, hk => by
    obtain ⟨k', rfl, _⟩ := fuel hk
    have hx := hg (n + i) w (by omega) (by omega)
    simp only [F_matrix_Solve_l38, mp_len, dT (show (i : Int) < ((h - n : Nat) : Int) by omega), cT0, rdMp (f := fun j => mp (g (n + j)) (w + 1)) (show i < h - n by omega), oB, rdMp (f := g (n + i)) (show w < w + 1 by omega), qsgn_ok hx hb, incon]
    by_cases hz : g (n + i) w = 0
    · simp only [nF (sgn0.2 hz), cF0, if_pos hz, ckS (i := i) (by omega), oB]
      exact Solve_l38 hg hb hh hn K t (i + 1) k' (by omega) (by omega)
    · simp only [nT (fun h => hz (sgn0.1 h)), cT0, if_neg hz, if_true]
/-- The solution, after m pivots. -/
def svec (s : RS) (w : Nat) : Nat → Nat → Rat
  | 0 => fun _ => 0
  | m + 1 => upd (svec s w m) (pat s.ps m) (s.g m w)
theorem Solve_l65 {s : RS} {h w : Nat} (hp : s.ps.length ≤ h) (hh : h ≤ 1000) (hpw : ∀ j ∈ s.ps, j < w) (d : Rat) (K : Nat) : ∀ (t i k : Nat), i + t = s.ps.length → t < k → F_matrix_Solve_l65 K (w : Int) ⟨mx s.g h (w + 1), ints s.ps, d⟩ k (mp (svec s w i) w) (i : Int) = some (mp (svec s w s.ps.length) w)
  | 0, i, k, hi, hk => by
    obtain ⟨k', rfl, _⟩ := fuel hk
    have : i = s.ps.length := by omega
    subst this
    simp only [F_matrix_Solve_l65, ints_len, dF (show ¬ (s.ps.length : Int) < (s.ps.length : Int) by omega), cF0]
  | t + 1, i, k, hi, hk => by
    obtain ⟨k', rfl, _⟩ := fuel hk
    have hl : i < s.ps.length := by omega
    have hw' := hpw _ (pat_mem hl)
    simp only [F_matrix_Solve_l65, ints_len, dT (show (i : Int) < (s.ps.length : Int) by omega), cT0, rdI hl, oB, rdMx (g := s.g) (w := w + 1) (show i < h by omega), rdMp (f := s.g i) (show w < w + 1 by omega), rdMp (f := svec s w i) hw', stMp (f := svec s w i) hw', ckS (i := i) (by omega)]
    exact Solve_l65 hp hh hpw d K t (i + 1) k' (by omega) (by omega)
/-- What Solve returns. -/
def solved (g : Nat → Nat → Rat) (f : Nat → Rat) (h w : Nat) : Option (List Rat) :=
  let s := red (wid g f w) h w
  if incon s.g w (h - s.ps.length) s.ps.length = true then none else some (mp (svec s w s.ps.length) w)
theorem pSolve_ok {g : Nat → Nat → Rat} {f : Nat → Rat} {h w b : Nat} (hg : Bdx h w b g) (hf : ∀ i, i < h → Bd b (f i)) (hc : Cok h w) (hb : 2 ≤ b) (hB : 5 ^ w * b ≤ 200000000) (hh : h ≤ 64) (hw : w ≤ 63) {K : Nat} (hK : w + 1 + h < K) :
    F_matrix_Solve K (mx g h w) (mp f h) = some (match solved g f h w with | none => ([], 6) | some x => (x, 0)) := by
  have hgw := wid_bd hg hf
  have r := red_ok hgw hb w (by omega)
  have h29 := Solve_l29 (g := g) (f := f) hh (show w ≤ 64 by omega) K h 0 K (by omega) (by omega)
  have z1 : mx (wid g f w) 0 (w + 1) = [] := rfl
  rw [z1] at h29
  simp only [Int.natCast_zero, mp_zero] at h29
  have hrd := reduce_ok hgw hb (show w ≤ w + 1 by omega) hB (show h ≤ 1000 by omega) (show w + 1 ≤ 1000 by omega) (K := K) (by omega)
  have hpk : ∀ j ∈ (red (wid g f w) h w).ps, j < w := r.pk
  have hbig : 5 ^ w * b ≤ 1073741824 := by omega
  unfold solved
  generalize red (wid g f w) h w = s at *
  have hp := r.ph
  have h38 := Solve_l38 r.bd hbig (show h ≤ 1000 by omega) hp K (h - s.ps.length) 0 K (by omega) (by omega)
  have h65 := Solve_l65 hp (show h ≤ 1000 by omega) hpk s.d K s.ps.length 0 K (by omega) (by omega)
  simp only [Int.natCast_zero, Nat.add_zero, svec] at h38 h65
  have hsl : slL (mx s.g h (w + 1)) (s.ps.length : Int) (h : Int) = some (mp (fun j => mp (s.g (s.ps.length + j)) (w + 1)) (h - s.ps.length)) := slMp (f := fun j => mp (s.g j) (w + 1)) hp
  simp only [F_matrix_Solve, Valid_ok hc hh (show w ≤ 64 by omega) (K := K) (by omega), oB, Bool.not_true, cF0, mp_len, mx_len, nF (rfl : (h : Int) = (h : Int)), cols_ok hc, h29, F_matrix_Solve_j30, hrd, ints_len, hsl, h38]
  by_cases hin : incon s.g w (h - s.ps.length) s.ps.length = true
  · simp only [if_pos hin]
  · simp only [if_neg hin, F_matrix_Solve_j39, mkMp (n := w) (z := (0 : Rat)) (by omega), oB, h65, F_matrix_Solve_j66]
end Go.Proofs.Ytkjnngaceacmdaa
