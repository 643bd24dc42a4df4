/- Matrices: the reduced rows, and what gantryref09.Reduced computes. -/
import Derived.Test.YtkjnngaceacmdaaGreatLB
set_option linter.unusedVariables false
namespace Go.Proofs.YtkjnngaceacmdaaGreat

/-- A matrix of h rows and w columns. -/
def mx (g : Nat → Nat → Rat) (h w : Nat) : List (List Rat) := mp (fun i => mp (g i) w) h
theorem rdMx {g : Nat → Nat → Rat} {h w i : Nat} (hi : i < h) : rdL (mx g h w) (i : Int) = some (mp (g i) w) := rdMp hi
theorem mx_len {g : Nat → Nat → Rat} {h w : Nat} : (mx g h w).length = h := mp_len _ _
/-- All numbers of a matrix are small. -/
def Bdx (h w b : Nat) (g : Nat → Nat → Rat) : Prop := ∀ i c, i < h → c < w → Bd b (g i c)
theorem Bdx.mono {h w b b' : Nat} {g : Nat → Nat → Rat} (hg : Bdx h w b g) (hb : b ≤ b') : Bdx h w b' g := fun i c hi hc => (hg i c hi hc).mono hb
/-- The rows with n and at exchanged. -/
def swp (g : Nat → Nat → Rat) (n at0 i : Nat) : Nat → Rat := g (if i = n then at0 else if i = at0 then n else i)
theorem swp_lt {h n at0 i : Nat} (hn : n < h) (ha : at0 < h) (hi : i < h) : (if i = n then at0 else if i = at0 then n else i) < h := by split; exact ha; split; exact hn; exact hi
theorem less_l24 {f e : Nat → Rat} {w b b' : Nat} {d : Rat} (hf : ∀ c, c < w → Bd b (f c)) (he : ∀ c, c < w → Bd b' (e c)) (hd : Bd b d) (hb : b + b + b' ≤ 1073741824) (hw : w ≤ 1000) (K : Nat) : ∀ (t i k : Nat), i + t = w → t < k → F_gantryref09_less_l24 K (mp f w) (mp e w) d k (mp (fun c => f c - d * e c) i) (i : Int) = some (mp (fun c => f c - d * e c) w)
  | 0, i, k, hi, hk => by
    have : i = w := by omega
    subst this
    obtain ⟨k', rfl, _⟩ := fuel hk
    simp only [F_gantryref09_less_l24, mp_len, dF (show ¬ (i : Int) < (i : Int) by omega), cF0]
  | t + 1, i, k, hi, hk => by
    obtain ⟨k', rfl, _⟩ := fuel hk
    simp only [F_gantryref09_less_l24, mp_len, dT (show (i : Int) < (w : Int) by omega), cT0, rdMp (f := f) (show i < w by omega), rdMp (f := e) (show i < w by omega), qmul_ok hd (he i (by omega)) (by omega) (by omega), qsub_ok (hf i (by omega)) (hd.mul (he i (by omega))) (by omega) (by omega), oB, apM (g := fun c => f c - d * e c) (i := i) (by omega), ckS (i := i) (by omega)]
    exact less_l24 hf he hd hb hw K t (i + 1) k' (by omega) (by omega)
theorem less_ok {f e : Nat → Rat} {w b b' : Nat} {d : Rat} (hf : ∀ c, c < w → Bd b (f c)) (he : ∀ c, c < w → Bd b' (e c)) (hd : Bd b d) (hb : b + b + b' ≤ 1073741824) (hw : w ≤ 1000) {K : Nat} (hK : w < K) : F_gantryref09_less K (mp f w) (mp e w) d = some (mp (fun c => f c - d * e c) w) := by
  have := less_l24 hf he hd hb hw K w 0 K (by omega) hK
  simp only [Int.natCast_zero, mp_zero] at this
  simp only [F_gantryref09_less, this, oB, F_gantryref09_less_j25]
end Go.Proofs.YtkjnngaceacmdaaGreat
