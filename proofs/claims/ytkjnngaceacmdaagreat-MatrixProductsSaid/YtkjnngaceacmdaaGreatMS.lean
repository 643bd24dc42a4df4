/- The law MatrixSolves, without a program in sight. -/
import Derived.Test.YtkjnngaceacmdaaGreatLV
set_option linter.unusedVariables false
namespace Go.Proofs.YtkjnngaceacmdaaGreat

theorem Dot_l8 {f e : Nat → Rat} {w b : Nat} (hf : ∀ c, c < w → Bd b (f c)) (he : ∀ c, c < w → Bd b (e c)) (hb : b ≤ 1000000) (hw : w ≤ 100) (K : Nat) : ∀ (t i k : Nat), i + t = w → t < k → Bd (1 + i * (b + b + 1)) (sm (fun c => f c * e c) i) → Bd (1 + w * (b + b + 1)) (sm (fun c => f c * e c) w) ∧ F_gantryref05_Dot_l8 K (mp f w) (mp e w) k (sm (fun c => f c * e c) i) (i : Int) = some (sm (fun c => f c * e c) w)
  | 0, i, k, hi, hk, ha => by
    obtain ⟨k', rfl, _⟩ := fuel hk
    have : i = w := by omega
    subst this
    exact ⟨ha, by simp only [F_gantryref05_Dot_l8, mp_len, dF (show ¬ (i : Int) < (i : Int) by omega), cF0]⟩
  | t + 1, i, k, hi, hk, ha => by
    obtain ⟨k', rfl, _⟩ := fuel hk
    have hx := hf i (by omega)
    have hy := he i (by omega)
    have hib : i * (b + b + 1) ≤ 100 * 2000001 := Nat.mul_le_mul (by omega) (by omega)
    have hs : 1 + i * (b + b + 1) + (b + b) + 1 = 1 + (i + 1) * (b + b + 1) := by rw [Nat.add_mul]; omega
    obtain ⟨r1, r2⟩ := Dot_l8 hf he hb hw K t (i + 1) k' (by omega) (by omega) (by simp only [sm]; exact (ha.add (hx.mul hy)).mono (by omega))
    refine ⟨r1, ?_⟩
    simp only [F_gantryref05_Dot_l8, mp_len, dT (show (i : Int) < (w : Int) by omega), cT0, rdMp (f := f) (show i < w by omega), rdMp (f := e) (show i < w by omega), oB, qmul_ok hx hy (by omega) (by omega), qadd_ok ha (hx.mul hy) (by omega) (by omega), ckS (i := i) (by omega)]
    exact r2
theorem Dot_ok {f e : Nat → Rat} {w b : Nat} (hf : ∀ c, c < w → Bd b (f c)) (he : ∀ c, c < w → Bd b (e c)) (hb : b ≤ 1000000) (hw : w ≤ 100) {K : Nat} (hK : w < K) : Bd (1 + w * (b + b + 1)) (sm (fun c => f c * e c) w) ∧ F_gantryref05_Dot K (mp f w) (mp e w) = some (sm (fun c => f c * e c) w) := by
  obtain ⟨r1, r2⟩ := Dot_l8 hf he hb hw K w 0 K (by omega) hK (Bd.zero.mono (by omega))
  simp only [Int.natCast_zero, sm] at r2
  exact ⟨r1, by simp only [F_gantryref05_Dot, r2, oB, F_gantryref05_Dot_j9]⟩
/-- A matrix times a vector. -/
def mulV (g : Nat → Nat → Rat) (v : Nat → Rat) (w i : Nat) : Rat := sm (fun c => g i c * v c) w
theorem rApply_l23 {g : Nat → Nat → Rat} {v : Nat → Rat} {h w b : Nat} (hg : Bdx h w b g) (hv : ∀ c, c < w → Bd b (v c)) (hb : b ≤ 1000000) (hh : h ≤ 100) (hw : w ≤ 100) {K : Nat} (hK : w < K) : ∀ (t i k : Nat), i + t = h → t < k → F_gantryref09_Apply_l23 K (mx g h w) (mp v w) k (mp (mulV g v w) i) (i : Int) = some (mp (mulV g v w) h)
  | 0, i, k, hi, hk => by
    obtain ⟨k', rfl, _⟩ := fuel hk
    have : i = h := by omega
    subst this
    simp only [F_gantryref09_Apply_l23, mx_len, dF (show ¬ (i : Int) < (i : Int) by omega), cF0]
  | t + 1, i, k, hi, hk => by
    obtain ⟨k', rfl, _⟩ := fuel hk
    have hd := (Dot_ok (f := g i) (fun c hc => hg i c (by omega) hc) hv hb hw hK).2
    have e : sm (fun c => g i c * v c) w = mulV g v w i := rfl
    rw [e] at hd
    simp only [F_gantryref09_Apply_l23, mx_len, dT (show (i : Int) < (h : Int) by omega), cT0, rdMx (g := g) (w := w) (show i < h by omega), oB, hd, apM (g := mulV g v w) (i := i) (by omega), ckS (i := i) (by omega)]
    exact rApply_l23 hg hv hb hh hw hK t (i + 1) k' (by omega) (by omega)
theorem rApply_ok {g : Nat → Nat → Rat} {v : Nat → Rat} {h w b : Nat} (hg : Bdx h w b g) (hv : ∀ c, c < w → Bd b (v c)) (hb : b ≤ 1000000) (hh : h ≤ 100) (hw : w ≤ 100) {K : Nat} (hK : w + h < K) : F_gantryref09_Apply K (mx g h w) (mp v w) = some (mp (mulV g v w) h) := by
  have := rApply_l23 hg hv hb hh hw (K := K) (by omega) h 0 K (by omega) (by omega)
  simp only [Int.natCast_zero, mp_zero] at this
  simp only [F_gantryref09_Apply, this, oB, F_gantryref09_Apply_j24]
theorem mulV_bd {g : Nat → Nat → Rat} {v : Nat → Rat} {h w b : Nat} (hg : Bdx h w b g) (hv : ∀ c, c < w → Bd b (v c)) (hb : b ≤ 1000000) (hw : w ≤ 100) {i : Nat} (hi : i < h) : Bd (1 + w * (b + b + 1)) (mulV g v w i) :=
  (Dot_ok (f := g i) (fun c hc => hg i c hi hc) hv hb hw (K := w + 1) (by omega)).1
end Go.Proofs.YtkjnngaceacmdaaGreat
