/- Turn, Mul and Apply; the law MatrixProducts, without a program in sight. -/
import Derived.Test.YtkjnngaceacmdaaMS
set_option linter.unusedVariables false
namespace Go.Proofs.Ytkjnngaceacmdaa

/-- A turned matrix. -/
def tr (g : Nat → Nat → Rat) (i k : Nat) : Rat := g k i
theorem turned_l53 {g : Nat → Nat → Rat} {h w c : Nat} (hh : h ≤ 100) (hc : c < w) (K : Nat) : ∀ (t i k : Nat), i + t = h → t < k → F_matrix_turned_l53 K (mx g h w) (c : Int) k (mp (mid (tr g c) (fun _ => 0) i) h) (i : Int) = some (mp (tr g c) h)
  | 0, i, k, hi, hk => by
    obtain ⟨k', rfl, _⟩ := fuel hk
    have : i = h := by omega
    subst this
    simp only [F_matrix_turned_l53, mx_len, dF (show ¬ (i : Int) < (i : Int) by omega), cF0]
    rw [mp_congr fun j hj => mid_end hj]
  | t + 1, i, k, hi, hk => by
    obtain ⟨k', rfl, _⟩ := fuel hk
    have hl : i < h := by omega
    have e := mid_next (f := tr g c) (e := fun _ => (0 : Rat)) (c := i)
    simp only [F_matrix_turned_l53, mx_len, dT (show (i : Int) < (h : Int) by omega), cT0, rdMx (g := g) (w := w) hl, oB, rdMp (f := g i) hc, rdMp (f := mid (tr g c) (fun _ => 0) i) hl, stMp (f := mid (tr g c) (fun _ => 0) i) hl, ckS (i := i) (by omega)]
    have e' : upd (mid (tr g c) (fun _ => 0) i) i (g i c) = mid (tr g c) (fun _ => 0) (i + 1) := e
    rw [e']
    exact turned_l53 hh hc K t (i + 1) k' (by omega) (by omega)
theorem turned_l25 {g : Nat → Nat → Rat} {h w : Nat} (hh : h ≤ 100) (hw : w ≤ 100) {K : Nat} (hK : h < K) : ∀ (t i k : Nat), i + t = w → t < k → F_matrix_turned_l25 K (mx g h w) (w : Int) k (mx (tr g) i h) (i : Int) = some (mx (tr g) w h)
  | 0, i, k, hi, hk => by
    obtain ⟨k', rfl, _⟩ := fuel hk
    have : i = w := by omega
    subst this
    simp only [F_matrix_turned_l25, dF (show ¬ (i : Int) < (i : Int) by omega), cF0]
  | t + 1, i, k, hi, hk => by
    obtain ⟨k', rfl, _⟩ := fuel hk
    have h53 := turned_l53 (g := g) hh (show i < w by omega) K h 0 K (by omega) hK
    have e0 : mid (tr g i) (fun _ => (0 : Rat)) 0 = fun _ => 0 := by funext j; exact if_neg (by omega)
    rw [e0] at h53
    simp only [Int.natCast_zero] at h53
    have e4 : apL (mx (tr g) i h) [mp (tr g i) h] = some (mx (tr g) (i + 1) h) := apM (g := fun i => mp (tr g i) h) (by omega)
    simp only [F_matrix_turned_l25, dT (show (i : Int) < (w : Int) by omega), cT0, mx_len, mkMp (n := h) (z := (0 : Rat)) (by omega), oB, h53, F_matrix_turned_j54, e4, ckS (i := i) (by omega)]
    exact turned_l25 hh hw hK t (i + 1) k' (by omega) (by omega)
theorem turned_ok {g : Nat → Nat → Rat} {h w : Nat} (hc : Cok h w) (hh : h ≤ 100) (hw : w ≤ 100) {K : Nat} (hK : w + h < K) : F_matrix_turned K (mx g h w) = some (mx (tr g) w h) := by
  have := turned_l25 (g := g) hh hw (K := K) (by omega) w 0 K (by omega) (by omega)
  have e : mx (tr g) 0 h = [] := rfl
  rw [e] at this
  simp only [Int.natCast_zero] at this
  simp only [F_matrix_turned, cols_ok hc, oB, this, F_matrix_turned_j26]
/-- The product of two matrices. -/
def mulM (g q : Nat → Nat → Rat) (w i j : Nat) : Rat := mulV (tr q) (g i) w j
theorem Turn_ok {g : Nat → Nat → Rat} {h w : Nat} (hc : Cok h w) (hh : h ≤ 64) (hw : w ≤ 64) {K : Nat} (hK : w + h < K) : F_matrix_Turn K (mx g h w) = some (mx (tr g) w h, 0) := by
  simp only [F_matrix_Turn, Valid_ok hc hh hw (K := K) (by omega), oB, Bool.not_true, cF0, turned_ok (g := g) hc (show h ≤ 100 by omega) (show w ≤ 100 by omega) hK]
theorem SameM {g : Nat → Nat → Rat} {h w b : Nat} (hg : Bdx h w b g) (hb : b ≤ 1073741824) (hh : h ≤ 1000) (hw : w ≤ 1000) {K : Nat} (hK : 1000 < K) : F_gantryref09_Same K (mx g h w) (mx g h w) = some true :=
  Same_ok (b := b) (fun r hr => by
    obtain ⟨i, hi, rfl⟩ := List.mem_map.1 hr
    exact ⟨mp_bds fun c hc => hg i c (List.mem_range.1 hi) hc, by rw [mp_len]; exact hw⟩) hb (by rw [mx_len]; exact hh) hK
end Go.Proofs.Ytkjnngaceacmdaa
