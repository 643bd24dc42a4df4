/- Turn, Mul and Apply; the law MatrixProducts, without a program in sight. -/
import Derived.Test.YtkjnngaceacmdaaGreatMS
set_option linter.unusedVariables false
namespace Go.Proofs.YtkjnngaceacmdaaGreat

/-- A turned matrix. -/
def tr (g : Nat → Nat → Rat) (i k : Nat) : Rat := g k i
theorem rTurn_l50 {g : Nat → Nat → Rat} {h w c : Nat} (hh : h ≤ 100) (hc : c < w) (K : Nat) : ∀ (t i k : Nat), i + t = h → t < k → F_gantryref09_Turn_l50 K (mx g h w) (c : Int) k (mp (tr g c) i) (i : Int) = some (mp (tr g c) h)
  | 0, i, k, hi, hk => by
    obtain ⟨k', rfl, _⟩ := fuel hk
    have : i = h := by omega
    subst this
    simp only [F_gantryref09_Turn_l50, mx_len, dF (show ¬ (i : Int) < (i : Int) by omega), cF0]
  | t + 1, i, k, hi, hk => by
    obtain ⟨k', rfl, _⟩ := fuel hk
    have hl : i < h := by omega
    have e4 : apL (mp (tr g c) i) [g i c] = some (mp (tr g c) (i + 1)) := apM (g := tr g c) (by omega)
    simp only [F_gantryref09_Turn_l50, mx_len, dT (show (i : Int) < (h : Int) by omega), cT0, rdMx (g := g) (w := w) hl, oB, rdMp (f := g i) hc, e4, ckS (i := i) (by omega)]
    exact rTurn_l50 hh hc K t (i + 1) k' (by omega) (by omega)
theorem rTurn_l23 {g : Nat → Nat → Rat} {h w : Nat} (hc : Cok h w) (hh : h ≤ 100) (hw : w ≤ 100) {K : Nat} (hK : h < K) : ∀ (t i k : Nat), i + t = w → t < k → F_gantryref09_Turn_l23 K (mx g h w) k (mx (tr g) i h) (i : Int) = some (mx (tr g) w h)
  | 0, i, k, hi, hk => by
    obtain ⟨k', rfl, _⟩ := fuel hk
    have : i = w := by omega
    subst this
    simp only [F_gantryref09_Turn_l23, rcols_ok hc, oB, dF (show ¬ (i : Int) < (i : Int) by omega), cF0]
  | t + 1, i, k, hi, hk => by
    obtain ⟨k', rfl, _⟩ := fuel hk
    have h50 := rTurn_l50 (g := g) hh (show i < w by omega) K h 0 K (by omega) hK
    simp only [Int.natCast_zero, mp_zero] at h50
    have e4 : apL (mx (tr g) i h) [mp (tr g i) h] = some (mx (tr g) (i + 1) h) := apM (g := fun i => mp (tr g i) h) (by omega)
    simp only [F_gantryref09_Turn_l23, rcols_ok hc, dT (show (i : Int) < (w : Int) by omega), cT0, oB, h50, F_gantryref09_Turn_j51, e4, ckS (i := i) (by omega)]
    exact rTurn_l23 hc hh hw hK t (i + 1) k' (by omega) (by omega)
theorem rTurn_ok {g : Nat → Nat → Rat} {h w : Nat} (hc : Cok h w) (hh : h ≤ 100) (hw : w ≤ 100) {K : Nat} (hK : w + h < K) : F_gantryref09_Turn K (mx g h w) = some (mx (tr g) w h) := by
  have := rTurn_l23 (g := g) hc hh hw (K := K) (by omega) w 0 K (by omega) (by omega)
  have e : mx (tr g) 0 h = [] := rfl
  rw [e] at this
  simp only [Int.natCast_zero] at this
  simp only [F_gantryref09_Turn, this, oB, F_gantryref09_Turn_j24]
theorem SameM {g : Nat → Nat → Rat} {h w b : Nat} (hg : Bdx h w b g) (hb : b ≤ 1073741824) (hh : h ≤ 1000) (hw : w ≤ 1000) {K : Nat} (hK : 1000 < K) : F_gantryref09_Same K (mx g h w) (mx g h w) = some true :=
  Same_ok (b := b) (fun r hr => by
    obtain ⟨i, hi, rfl⟩ := List.mem_map.1 hr
    exact ⟨mp_bds fun c hc => hg i c (List.mem_range.1 hi) hc, by rw [mp_len]; exact hw⟩) hb (by rw [mx_len]; exact hh) hK
end Go.Proofs.YtkjnngaceacmdaaGreat
