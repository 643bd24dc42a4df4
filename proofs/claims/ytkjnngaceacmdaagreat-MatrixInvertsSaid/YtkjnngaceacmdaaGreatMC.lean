/- Kernel, the program's and the reference's; Valid and Same. -/
import Derived.Test.YtkjnngaceacmdaaGreatMB
set_option linter.unusedVariables false
namespace Go.Proofs.YtkjnngaceacmdaaGreat

/-- A list of numbers read by index. -/
def pat (ps : List Nat) (i : Nat) : Nat := ps.getD i 0
/-- A matrix without rows has no columns. -/
def Cok (h w : Nat) : Prop := h = 0 → w = 0
theorem cols_ok {g : Nat → Nat → Rat} {h w : Nat} (hc : Cok h w) : F_matrix_cols (mx g h w) = some (w : Int) := by
  by_cases h0 : h = 0
  · subst h0
    rw [hc rfl]; rfl
  · have r0 := rdMx (g := g) (w := w) (show 0 < h by omega)
    simp only [Int.natCast_zero] at r0
    simp only [F_matrix_cols, mx_len, qF (show ¬ (h : Int) = 0 by omega), cF0, r0, oB, mp_len]
theorem rcols_ok {g : Nat → Nat → Rat} {h w : Nat} (hc : Cok h w) : F_gantryref09_Cols (mx g h w) = some (w : Int) := by
  by_cases h0 : h = 0
  · subst h0
    rw [hc rfl]; rfl
  · have r0 := rdMx (g := g) (w := w) (show 0 < h by omega)
    simp only [Int.natCast_zero] at r0
    simp only [F_gantryref09_Cols, mx_len, qF (show ¬ (h : Int) = 0 by omega), cF0, r0, oB, mp_len]
theorem Valid_l3 {g : Nat → Nat → Rat} {h w : Nat} (hh : h ≤ 1000) (K : Nat) : ∀ (t i k : Nat), i + t = h → t < k → F_slices_IndexFunc_Rat_l3 K (mx g h w) (F_matrix_Valid_1 (mx g h w)) k (i : Int) = some (.go ())
  | 0, i, k, hi, hk => by
    obtain ⟨k', rfl, _⟩ := fuel hk
    simp only [F_slices_IndexFunc_Rat_l3, mx_len, dF (show ¬ (i : Int) < (h : Int) by omega), cF0]
  | t + 1, i, k, hi, hk => by
    obtain ⟨k', rfl, _⟩ := fuel hk
    have r0 := rdMx (g := g) (w := w) (show 0 < h by omega)
    simp only [Int.natCast_zero] at r0
    simp only [F_slices_IndexFunc_Rat_l3, mx_len, dT (show (i : Int) < (h : Int) by omega), cT0, rdMx (g := g) (w := w) (show i < h by omega), oB, F_matrix_Valid_1, r0, mp_len, nF (rfl : (w : Int) = (w : Int)), cF0, ckS (i := i) (by omega)]
    exact Valid_l3 hh K t (i + 1) k' (by omega) (by omega)
theorem Valid_ok {g : Nat → Nat → Rat} {h w : Nat} (hc : Cok h w) (hh : h ≤ 64) (hw : w ≤ 64) {K : Nat} (hK : h < K) : F_matrix_Valid K (mx g h w) = some true := by
  have := Valid_l3 (g := g) (w := w) (show h ≤ 1000 by omega) K h 0 K (by omega) hK
  simp only [Int.natCast_zero] at this
  simp only [F_matrix_Valid, mx_len, dT (show (h : Int) ≤ 64 by omega), cT0, cols_ok hc, oB, dT (show (w : Int) ≤ 64 by omega), F_slices_ContainsFunc_Rat, F_slices_IndexFunc_Rat, this, F_slices_IndexFunc_Rat_j4]
  rfl
theorem SameRow_l4 {l : List Rat} {b : Nat} (hl : Bds b l) (hb : b ≤ 1073741824) (hn : l.length ≤ 1000) (K : Nat) : ∀ (t i k : Nat), i + t = l.length → t < k → F_gantryref09_SameRow_l4 K l l k (i : Int) = some (.go ())
  | 0, i, k, hi, hk => by
    obtain ⟨k', rfl, _⟩ := fuel hk
    simp only [F_gantryref09_SameRow_l4, dF (show ¬ (i : Int) < (l.length : Int) by omega), cF0]
  | t + 1, i, k, hi, hk => by
    obtain ⟨k', rfl, _⟩ := fuel hk
    have hx := hl _ (at_mem (l := l) (i := i) (by omega))
    simp only [F_gantryref09_SameRow_l4, dT (show (i : Int) < (l.length : Int) by omega), cT0, rdAt (l := l) (i := i) (by omega), oB, qsame_ok hx hx hb hb, decide_true, Bool.not_true, cF0, ckS (i := i) (by omega)]
    exact SameRow_l4 hl hb hn K t (i + 1) k' (by omega) (by omega)
theorem SameRow_ok {l : List Rat} {b : Nat} (hl : Bds b l) (hb : b ≤ 1073741824) (hn : l.length ≤ 1000) {K : Nat} (hK : l.length < K) : F_gantryref09_SameRow K l l = some true := by
  have := SameRow_l4 hl hb hn K l.length 0 K (by omega) hK
  simp only [Int.natCast_zero] at this
  simp only [F_gantryref09_SameRow, nF (rfl : (l.length : Int) = l.length), cF0, this, oB, F_gantryref09_SameRow_j5]
theorem Same_l4 {M : List (List Rat)} {b : Nat} (hM : ∀ r ∈ M, Bds b r ∧ r.length ≤ 1000) (hb : b ≤ 1073741824) (hn : M.length ≤ 1000) {K : Nat} (hK : 1000 < K) : ∀ (t i k : Nat), i + t = M.length → t < k → F_gantryref09_Same_l4 K M M k (i : Int) = some (.go ())
  | 0, i, k, hi, hk => by
    obtain ⟨k', rfl, _⟩ := fuel hk
    simp only [F_gantryref09_Same_l4, dF (show ¬ (i : Int) < (M.length : Int) by omega), cF0]
  | t + 1, i, k, hi, hk => by
    obtain ⟨k', rfl, _⟩ := fuel hk
    obtain ⟨r, hr, _, hrd⟩ := rdM (xs := M) (i := i) (by omega)
    have := hM r hr
    simp only [F_gantryref09_Same_l4, dT (show (i : Int) < (M.length : Int) by omega), cT0, hrd, oB, SameRow_ok this.1 hb this.2 (K := K) (by omega), Bool.not_true, cF0, ckS (i := i) (by omega)]
    exact Same_l4 hM hb hn hK t (i + 1) k' (by omega) (by omega)
theorem Same_ok {M : List (List Rat)} {b : Nat} (hM : ∀ r ∈ M, Bds b r ∧ r.length ≤ 1000) (hb : b ≤ 1073741824) (hn : M.length ≤ 1000) {K : Nat} (hK : 1000 < K) : F_gantryref09_Same K M M = some true := by
  have := Same_l4 hM hb hn hK M.length 0 K (by omega) (by omega)
  simp only [Int.natCast_zero] at this
  simp only [F_gantryref09_Same, nF (rfl : (M.length : Int) = M.length), cF0, this, oB, F_gantryref09_Same_j5]
end Go.Proofs.YtkjnngaceacmdaaGreat
