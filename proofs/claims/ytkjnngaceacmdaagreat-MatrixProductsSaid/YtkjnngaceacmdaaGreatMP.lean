/- Turn, Mul and Apply; the law MatrixProducts, without a program in sight. -/
import Derived.Test.YtkjnngaceacmdaaGreatMS
set_option linter.unusedVariables false
namespace Go.Proofs.YtkjnngaceacmdaaGreat

theorem rsum_l8 {f : Nat → Rat} {w b : Nat} (hf : ∀ c, c < w → Bd b (f c)) (hb : b ≤ 2000000) (hw : w ≤ 100) (K : Nat) : ∀ (t i k : Nat), i + t = w → t < k → Bd (1 + i * (b + 1)) (sm f i) → F_rat_sum_l8 K (mp f w) k (sm f i) (i : Int) = some (sm f w)
  | 0, i, k, hi, hk, ha => by
    obtain ⟨k', rfl, _⟩ := fuel hk
    have : i = w := by omega
    subst this
    simp only [F_rat_sum_l8, mp_len, dF (show ¬ (i : Int) < (i : Int) by omega), cF0]
  | t + 1, i, k, hi, hk, ha => by
    obtain ⟨k', rfl, _⟩ := fuel hk
    have hx := hf i (by omega)
    have hib : i * (b + 1) ≤ 100 * 2000001 := Nat.mul_le_mul (by omega) (by omega)
    have hs : 1 + i * (b + 1) + b + 1 = 1 + (i + 1) * (b + 1) := by rw [Nat.add_mul]; omega
    simp only [F_rat_sum_l8, mp_len, dT (show (i : Int) < (w : Int) by omega), cT0, rdMp (f := f) (show i < w by omega), oB, qadd_ok ha hx (by omega) (by omega), ckS (i := i) (by omega)]
    exact rsum_l8 hf hb hw K t (i + 1) k' (by omega) (by omega) (by simp only [sm]; exact (ha.add hx).mono (by omega))
theorem pDot_l24 {f e : Nat → Rat} {w b : Nat} (hf : ∀ c, c < w → Bd b (f c)) (he : ∀ c, c < w → Bd b (e c)) (hb : b ≤ 1000000) (hw : w ≤ 100) (K : Nat) : ∀ (t i k : Nat), i + t = w → t < k → F_rat_Dot_l24 K (mp f w) (mp e w) k (mp (fun c => f c * e c) i) (i : Int) = some (mp (fun c => f c * e c) w)
  | 0, i, k, hi, hk => by
    obtain ⟨k', rfl, _⟩ := fuel hk
    have : i = w := by omega
    subst this
    simp only [F_rat_Dot_l24, mp_len, Int.min_self, dF (show ¬ (i : Int) < (i : Int) by omega), cF0]
  | t + 1, i, k, hi, hk => by
    obtain ⟨k', rfl, _⟩ := fuel hk
    simp only [F_rat_Dot_l24, mp_len, Int.min_self, dT (show (i : Int) < (w : Int) by omega), cT0, rdMp (f := f) (show i < w by omega), rdMp (f := e) (show i < w by omega), oB, qmul_ok (hf i (by omega)) (he i (by omega)) (by omega) (by omega), apM (g := fun c => f c * e c) (i := i) (by omega), ckS (i := i) (by omega)]
    exact pDot_l24 hf he hb hw K t (i + 1) k' (by omega) (by omega)
theorem pDot_ok {f e : Nat → Rat} {w b : Nat} (hf : ∀ c, c < w → Bd b (f c)) (he : ∀ c, c < w → Bd b (e c)) (hb : b ≤ 1000000) (hw : w ≤ 100) {K : Nat} (hK : w < K) : F_rat_Dot K (mp f w) (mp e w) = some (sm (fun c => f c * e c) w) := by
  have h1 := pDot_l24 hf he hb hw K w 0 K (by omega) hK
  have h2 := rsum_l8 (f := fun c => f c * e c) (b := b + b) (fun c hc => (hf c hc).mul (he c hc)) (by omega) hw K w 0 K (by omega) hK (Bd.zero.mono (by omega))
  simp only [Int.natCast_zero, mp_zero, sm] at h1 h2
  simp only [F_rat_Dot, h1, oB, F_rat_Dot_j25, F_rat_sum, h2, F_rat_sum_j9]
theorem applied_l23 {g : Nat → Nat → Rat} {v : Nat → Rat} {h w b : Nat} (hg : Bdx h w b g) (hv : ∀ c, c < w → Bd b (v c)) (hb : b ≤ 1000000) (hh : h ≤ 100) (hw : w ≤ 100) {K : Nat} (hK : w < K) : ∀ (t i k : Nat), i + t = h → t < k → F_matrix_applied_l23 K (mx g h w) (mp v w) k (mp (mulV g v w) i) (i : Int) = some (mp (mulV g v w) h)
  | 0, i, k, hi, hk => by
    obtain ⟨k', rfl, _⟩ := fuel hk
    have : i = h := by omega
    subst this
    simp only [F_matrix_applied_l23, mx_len, dF (show ¬ (i : Int) < (i : Int) by omega), cF0]
  | t + 1, i, k, hi, hk => by
    obtain ⟨k', rfl, _⟩ := fuel hk
    have hd := pDot_ok (f := g i) (fun c hc => hg i c (by omega) hc) hv hb hw hK
    have e : sm (fun c => g i c * v c) w = mulV g v w i := rfl
    rw [e] at hd
    simp only [F_matrix_applied_l23, mx_len, dT (show (i : Int) < (h : Int) by omega), cT0, rdMx (g := g) (w := w) (show i < h by omega), oB, hd, apM (g := mulV g v w) (i := i) (by omega), ckS (i := i) (by omega)]
    exact applied_l23 hg hv hb hh hw hK t (i + 1) k' (by omega) (by omega)
theorem applied_ok {g : Nat → Nat → Rat} {v : Nat → Rat} {h w b : Nat} (hg : Bdx h w b g) (hv : ∀ c, c < w → Bd b (v c)) (hb : b ≤ 1000000) (hh : h ≤ 100) (hw : w ≤ 100) {K : Nat} (hK : w + h < K) : F_matrix_applied K (mx g h w) (mp v w) = some (mp (mulV g v w) h) := by
  have := applied_l23 hg hv hb hh hw (K := K) (by omega) h 0 K (by omega) (by omega)
  simp only [Int.natCast_zero, mp_zero] at this
  simp only [F_matrix_applied, this, oB, F_matrix_applied_j24]
/-- A turned matrix. -/
def tr (g : Nat → Nat → Rat) (i k : Nat) : Rat := g k i
theorem turned_l53 {g : Nat → Nat → Rat} {h w c : Nat} (hh : h ≤ 100) (hc : c < w) (K : Nat) : ∀ (t i k : Nat), i + t = h → t < k → F_matrix_turned_l53 K (mx g h w) (c : Int) k (mp (mid (tr g c) (fun _ => 0) i) h) (i : Int) = some (mp (tr g c) h)
  | 0, i, k, hi, hk => by
    obtain ⟨k', rfl, _⟩ := fuel hk
    have : i = h := by omega
    subst this
    simp only [F_matrix_turned_l53, mx_len, dF (show ¬ (i : Int) < (i : Int) by omega), cF0]
    rw [mp_congr fun j hj => mid_end hj]
  | t + 1, i, k, hi, hk => by
    obtain ⟨k', rfl, _⟩ := fuel hk
    have hl : i < h := by omega
    have e := mid_next (f := tr g c) (e := fun _ => (0 : Rat)) (c := i)
    simp only [F_matrix_turned_l53, mx_len, dT (show (i : Int) < (h : Int) by omega), cT0, rdMx (g := g) (w := w) hl, oB, rdMp (f := g i) hc, rdMp (f := mid (tr g c) (fun _ => 0) i) hl, stMp (f := mid (tr g c) (fun _ => 0) i) hl, ckS (i := i) (by omega)]
    have e' : upd (mid (tr g c) (fun _ => 0) i) i (g i c) = mid (tr g c) (fun _ => 0) (i + 1) := e
    rw [e']
    exact turned_l53 hh hc K t (i + 1) k' (by omega) (by omega)
theorem turned_l25 {g : Nat → Nat → Rat} {h w : Nat} (hh : h ≤ 100) (hw : w ≤ 100) {K : Nat} (hK : h < K) : ∀ (t i k : Nat), i + t = w → t < k → F_matrix_turned_l25 K (mx g h w) (w : Int) k (mx (tr g) i h) (i : Int) = some (mx (tr g) w h)
  | 0, i, k, hi, hk => by
    obtain ⟨k', rfl, _⟩ := fuel hk
    have : i = w := by omega
    subst this
    simp only [F_matrix_turned_l25, dF (show ¬ (i : Int) < (i : Int) by omega), cF0]
  | t + 1, i, k, hi, hk => by
    obtain ⟨k', rfl, _⟩ := fuel hk
    have h53 := turned_l53 (g := g) hh (show i < w by omega) K h 0 K (by omega) hK
    have e0 : mid (tr g i) (fun _ => (0 : Rat)) 0 = fun _ => 0 := by funext j; exact if_neg (by omega)
    rw [e0] at h53
    simp only [Int.natCast_zero] at h53
    have e4 : apL (mx (tr g) i h) [mp (tr g i) h] = some (mx (tr g) (i + 1) h) := apM (g := fun i => mp (tr g i) h) (by omega)
    simp only [F_matrix_turned_l25, dT (show (i : Int) < (w : Int) by omega), cT0, mx_len, mkMp (n := h) (z := (0 : Rat)) (by omega), oB, h53, F_matrix_turned_j54, e4, ckS (i := i) (by omega)]
    exact turned_l25 hh hw hK t (i + 1) k' (by omega) (by omega)
theorem turned_ok {g : Nat → Nat → Rat} {h w : Nat} (hc : Cok h w) (hh : h ≤ 100) (hw : w ≤ 100) {K : Nat} (hK : w + h < K) : F_matrix_turned K (mx g h w) = some (mx (tr g) w h) := by
  have := turned_l25 (g := g) hh hw (K := K) (by omega) w 0 K (by omega) (by omega)
  have e : mx (tr g) 0 h = [] := rfl
  rw [e] at this
  simp only [Int.natCast_zero] at this
  simp only [F_matrix_turned, cols_ok hc, oB, this, F_matrix_turned_j26]
theorem rTurn_l50 {g : Nat → Nat → Rat} {h w c : Nat} (hh : h ≤ 100) (hc : c < w) (K : Nat) : ∀ (t i k : Nat), i + t = h → t < k → F_gantryref09_Turn_l50 K (mx g h w) (c : Int) k (mp (tr g c) i) (i : Int) = some (mp (tr g c) h)
  | 0, i, k, hi, hk => by
    obtain ⟨k', rfl, _⟩ := fuel hk
    have : i = h := by omega
    subst this
    simp only [F_gantryref09_Turn_l50, mx_len, dF (show ¬ (i : Int) < (i : Int) by omega), cF0]
  | t + 1, i, k, hi, hk => by
    obtain ⟨k', rfl, _⟩ := fuel hk
    have hl : i < h := by omega
    have e4 : apL (mp (tr g c) i) [g i c] = some (mp (tr g c) (i + 1)) := apM (g := tr g c) (by omega)
    simp only [F_gantryref09_Turn_l50, mx_len, dT (show (i : Int) < (h : Int) by omega), cT0, rdMx (g := g) (w := w) hl, oB, rdMp (f := g i) hc, e4, ckS (i := i) (by omega)]
    exact rTurn_l50 hh hc K t (i + 1) k' (by omega) (by omega)
theorem rTurn_l23 {g : Nat → Nat → Rat} {h w : Nat} (hc : Cok h w) (hh : h ≤ 100) (hw : w ≤ 100) {K : Nat} (hK : h < K) : ∀ (t i k : Nat), i + t = w → t < k → F_gantryref09_Turn_l23 K (mx g h w) k (mx (tr g) i h) (i : Int) = some (mx (tr g) w h)
  | 0, i, k, hi, hk => by
    obtain ⟨k', rfl, _⟩ := fuel hk
    have : i = w := by omega
    subst this
    simp only [F_gantryref09_Turn_l23, rcols_ok hc, oB, dF (show ¬ (i : Int) < (i : Int) by omega), cF0]
  | t + 1, i, k, hi, hk => by
    obtain ⟨k', rfl, _⟩ := fuel hk
    have h50 := rTurn_l50 (g := g) hh (show i < w by omega) K h 0 K (by omega) hK
    simp only [Int.natCast_zero, mp_zero] at h50
    have e4 : apL (mx (tr g) i h) [mp (tr g i) h] = some (mx (tr g) (i + 1) h) := apM (g := fun i => mp (tr g i) h) (by omega)
    simp only [F_gantryref09_Turn_l23, rcols_ok hc, dT (show (i : Int) < (w : Int) by omega), cT0, oB, h50, F_gantryref09_Turn_j51, e4, ckS (i := i) (by omega)]
    exact rTurn_l23 hc hh hw hK t (i + 1) k' (by omega) (by omega)
theorem rTurn_ok {g : Nat → Nat → Rat} {h w : Nat} (hc : Cok h w) (hh : h ≤ 100) (hw : w ≤ 100) {K : Nat} (hK : w + h < K) : F_gantryref09_Turn K (mx g h w) = some (mx (tr g) w h) := by
  have := rTurn_l23 (g := g) hc hh hw (K := K) (by omega) w 0 K (by omega) (by omega)
  have e : mx (tr g) 0 h = [] := rfl
  rw [e] at this
  simp only [Int.natCast_zero] at this
  simp only [F_gantryref09_Turn, this, oB, F_gantryref09_Turn_j24]
/-- The product of two matrices. -/
def mulM (g q : Nat → Nat → Rat) (w i j : Nat) : Rat := mulV (tr q) (g i) w j
theorem mulM_bd {g q : Nat → Nat → Rat} {h w v b : Nat} (hg : Bdx h w b g) (hq : Bdx w v b q) (hb : b ≤ 1000000) (hw : w ≤ 100) : Bdx h v (1 + w * (b + b + 1)) (mulM g q w) := fun i j hi hj =>
  mulV_bd (h := v) (fun k c hk hc => hq c k hc hk) (fun c hc => hg i c hi hc) hb hw hj
theorem Mul_l34 {g q : Nat → Nat → Rat} {h w v b : Nat} (hg : Bdx h w b g) (hq : Bdx w v b q) (hb : b ≤ 1000000) (hh : h ≤ 100) (hw : w ≤ 100) (hv : v ≤ 100) {K : Nat} (hK : w + v < K) : ∀ (t i k : Nat), i + t = h → t < k → F_matrix_Mul_l34 K (mx g h w) (mx (tr q) v w) k (mx (mulM g q w) i v) (i : Int) = some (mx (mulM g q w) h v)
  | 0, i, k, hi, hk => by
    obtain ⟨k', rfl, _⟩ := fuel hk
    have : i = h := by omega
    subst this
    simp only [F_matrix_Mul_l34, mx_len, dF (show ¬ (i : Int) < (i : Int) by omega), cF0]
  | t + 1, i, k, hi, hk => by
    obtain ⟨k', rfl, _⟩ := fuel hk
    have ha := applied_ok (g := tr q) (v := g i) (h := v) (fun k c hk hc => hq c k hc hk) (fun c hc => hg i c (by omega) hc) hb hv hw hK
    have e4 : apL (mx (mulM g q w) i v) [mp (mulV (tr q) (g i) w) v] = some (mx (mulM g q w) (i + 1) v) := apM (g := fun i => mp (mulM g q w i) v) (by omega)
    simp only [F_matrix_Mul_l34, mx_len, dT (show (i : Int) < (h : Int) by omega), cT0, rdMx (g := g) (w := w) (show i < h by omega), oB, ha, e4, ckS (i := i) (by omega)]
    exact Mul_l34 hg hq hb hh hw hv hK t (i + 1) k' (by omega) (by omega)
theorem rMul_l25 {g q : Nat → Nat → Rat} {h w v b : Nat} (hg : Bdx h w b g) (hq : Bdx w v b q) (hb : b ≤ 1000000) (hh : h ≤ 100) (hw : w ≤ 100) (hv : v ≤ 100) {K : Nat} (hK : w + v < K) : ∀ (t i k : Nat), i + t = h → t < k → F_gantryref09_Mul_l25 K (mx g h w) (mx (tr q) v w) k (mx (mulM g q w) i v) (i : Int) = some (mx (mulM g q w) h v)
  | 0, i, k, hi, hk => by
    obtain ⟨k', rfl, _⟩ := fuel hk
    have : i = h := by omega
    subst this
    simp only [F_gantryref09_Mul_l25, mx_len, dF (show ¬ (i : Int) < (i : Int) by omega), cF0]
  | t + 1, i, k, hi, hk => by
    obtain ⟨k', rfl, _⟩ := fuel hk
    have ha := rApply_ok (g := tr q) (v := g i) (h := v) (fun k c hk hc => hq c k hc hk) (fun c hc => hg i c (by omega) hc) hb hv hw hK
    have e4 : apL (mx (mulM g q w) i v) [mp (mulV (tr q) (g i) w) v] = some (mx (mulM g q w) (i + 1) v) := apM (g := fun i => mp (mulM g q w i) v) (by omega)
    simp only [F_gantryref09_Mul_l25, mx_len, dT (show (i : Int) < (h : Int) by omega), cT0, rdMx (g := g) (w := w) (show i < h by omega), oB, ha, e4, ckS (i := i) (by omega)]
    exact rMul_l25 hg hq hb hh hw hv hK t (i + 1) k' (by omega) (by omega)
theorem Mul_ok {g q : Nat → Nat → Rat} {h w v b : Nat} (hg : Bdx h w b g) (hq : Bdx w v b q) (hc : Cok h w) (hc' : Cok w v) (hb : b ≤ 1000000) (hh : h ≤ 64) (hw : w ≤ 64) (hv : v ≤ 64) {K : Nat} (hK : w + v + h < K) : F_matrix_Mul K (mx g h w) (mx q w v) = some (mx (mulM g q w) h v, 0) := by
  have := Mul_l34 hg hq hb (show h ≤ 100 by omega) (show w ≤ 100 by omega) (show v ≤ 100 by omega) (K := K) (by omega) h 0 K (by omega) (by omega)
  have e : mx (mulM g q w) 0 v = [] := rfl
  rw [e] at this
  simp only [Int.natCast_zero] at this
  simp only [F_matrix_Mul, Valid_ok hc hh hw (K := K) (by omega), Valid_ok hc' hw hv (K := K) (by omega), oB, Bool.not_true, cF0, cols_ok hc, mx_len, nF (rfl : (w : Int) = (w : Int)), turned_ok (g := q) hc' (show w ≤ 100 by omega) (show v ≤ 100 by omega) (K := K) (by omega), this, F_matrix_Mul_j35]
theorem rMul_ok {g q : Nat → Nat → Rat} {h w v b : Nat} (hg : Bdx h w b g) (hq : Bdx w v b q) (hc' : Cok w v) (hb : b ≤ 1000000) (hh : h ≤ 64) (hw : w ≤ 64) (hv : v ≤ 64) {K : Nat} (hK : w + v + h < K) : F_gantryref09_Mul K (mx g h w) (mx q w v) = some (mx (mulM g q w) h v) := by
  have := rMul_l25 hg hq hb (show h ≤ 100 by omega) (show w ≤ 100 by omega) (show v ≤ 100 by omega) (K := K) (by omega) h 0 K (by omega) (by omega)
  have e : mx (mulM g q w) 0 v = [] := rfl
  rw [e] at this
  simp only [Int.natCast_zero] at this
  simp only [F_gantryref09_Mul, rTurn_ok (g := q) hc' (show w ≤ 100 by omega) (show v ≤ 100 by omega) (K := K) (by omega), oB, this, F_gantryref09_Mul_j26]
theorem Mul_no {g q : Nat → Nat → Rat} {h w o v : Nat} (hc : Cok h w) (hc' : Cok o v) (hh : h ≤ 64) (hw : w ≤ 64) (ho : o ≤ 64) (hv : v ≤ 64) (hne : w ≠ o) {K : Nat} (hK : h + o < K) : F_matrix_Mul K (mx g h w) (mx q o v) = some ([], 1) := by
  simp only [F_matrix_Mul, Valid_ok hc hh hw (K := K) (by omega), Valid_ok hc' ho hv (K := K) (by omega), oB, Bool.not_true, cF0, cols_ok hc, mx_len, nT (show (w : Int) ≠ (o : Int) by omega), cT0]
theorem Mul_bad1 {M N : List (List Rat)} (hM : Bad M) {K : Nat} (hK : 64 < K) : F_matrix_Mul K M N = some ([], 1) := by
  simp only [F_matrix_Mul, Bad_ok hM hK, oB, Bool.not_false, cT0]
theorem Mul_bad2 {g : Nat → Nat → Rat} {h w : Nat} {M : List (List Rat)} (hc : Cok h w) (hh : h ≤ 64) (hw : w ≤ 64) (hM : Bad M) {K : Nat} (hK : 64 < K) : F_matrix_Mul K (mx g h w) M = some ([], 1) := by
  simp only [F_matrix_Mul, Valid_ok hc hh hw (K := K) (by omega), Bad_ok hM hK, oB, Bool.not_true, Bool.not_false, cF0, cT0]
theorem Apply_ok {g : Nat → Nat → Rat} {v : Nat → Rat} {h w b : Nat} (hg : Bdx h w b g) (hv : ∀ c, c < w → Bd b (v c)) (hc : Cok h w) (hb : b ≤ 1000000) (hh : h ≤ 64) (hw : w ≤ 64) {K : Nat} (hK : w + h < K) : F_matrix_Apply K (mx g h w) (mp v w) = some (mp (mulV g v w) h, 0) := by
  simp only [F_matrix_Apply, Valid_ok hc hh hw (K := K) (by omega), oB, Bool.not_true, cF0, cols_ok hc, mp_len, nF (rfl : (w : Int) = (w : Int)), applied_ok hg hv hb (show h ≤ 100 by omega) (show w ≤ 100 by omega) hK]
theorem Apply_no {g : Nat → Nat → Rat} {x : List Rat} {h w : Nat} (hc : Cok h w) (hh : h ≤ 64) (hw : w ≤ 64) (hx : x.length ≠ w) {K : Nat} (hK : h < K) : F_matrix_Apply K (mx g h w) x = some ([], 1) := by
  simp only [F_matrix_Apply, Valid_ok hc hh hw (K := K) (by omega), oB, Bool.not_true, cF0, cols_ok hc, nT (show (x.length : Int) ≠ (w : Int) by omega), cT0]
theorem Apply_bad {M : List (List Rat)} {x : List Rat} (hM : Bad M) {K : Nat} (hK : 64 < K) : F_matrix_Apply K M x = some ([], 1) := by
  simp only [F_matrix_Apply, Bad_ok hM hK, oB, Bool.not_false, cT0]
theorem Turn_bad {M : List (List Rat)} (hM : Bad M) {K : Nat} (hK : 64 < K) : F_matrix_Turn K M = some ([], 1) := by
  simp only [F_matrix_Turn, Bad_ok hM hK, oB, Bool.not_false, cT0]
theorem Turn_ok {g : Nat → Nat → Rat} {h w : Nat} (hc : Cok h w) (hh : h ≤ 64) (hw : w ≤ 64) {K : Nat} (hK : w + h < K) : F_matrix_Turn K (mx g h w) = some (mx (tr g) w h, 0) := by
  simp only [F_matrix_Turn, Valid_ok hc hh hw (K := K) (by omega), oB, Bool.not_true, cF0, turned_ok (g := g) hc (show h ≤ 100 by omega) (show w ≤ 100 by omega) hK]
theorem SameM {g : Nat → Nat → Rat} {h w b : Nat} (hg : Bdx h w b g) (hb : b ≤ 1073741824) (hh : h ≤ 1000) (hw : w ≤ 1000) {K : Nat} (hK : 1000 < K) : F_gantryref09_Same K (mx g h w) (mx g h w) = some true :=
  Same_ok (b := b) (fun r hr => by
    obtain ⟨i, hi, rfl⟩ := List.mem_map.1 hr
    exact ⟨mp_bds fun c hc => hg i c (List.mem_range.1 hi) hc, by rw [mp_len]; exact hw⟩) hb (by rw [mx_len]; exact hh) hK
theorem MatrixProducts_pure {a0 a1 : List Int} {a2 a3 a4 : Int} (h0 : I64s a0) (h1 : I64s a1) (h2 : -9223372036854775808 ≤ a2 ∧ a2 ≤ 9223372036854775807) (h3 : -9223372036854775808 ≤ a3 ∧ a3 ≤ 9223372036854775807) (h4 : -9223372036854775808 ≤ a4 ∧ a4 ≤ 9223372036854775807) : ∃ K, F_gantrylaw09_MatrixProducts K a0 a1 a2 a3 a4 = some true := by
  obtain ⟨h, w, e1, hh, hw, hc⟩ := sizes_ok (n := a2) h2
  obtain ⟨o, v, e2, ho, hv, hc'⟩ := sizes_ok (n := a3) h3
  obtain ⟨g, g1, g2⟩ := Mat_ok h0 hh hw
  obtain ⟨q, q1, q2⟩ := Mat_ok h1 ho hv
  obtain ⟨x, x1, x2⟩ := Row_ok h1 (at0 := 3) ⟨by omega, by omega⟩ (n := o) (by omega)
  obtain ⟨M, m1, m2, m3⟩ := ragged_ok (g := g) hh hw hc (how := a4) h4
  refine (?_ : Ev (fun K => F_gantrylaw09_MatrixProducts K a0 a1 a2 a3 a4) true).get
  obtain ⟨N, hN⟩ := lives09_ok
  refine ⟨N + 2000, fun K hK => ?_⟩
  have hlv := hN K (by omega)
  simp only at hlv
  have hT : Bdx w h 100 (tr g) := fun i c hi hc => g1 c i hc hi
  have s1 := SameM hT (by omega) (show w ≤ 1000 by omega) (show h ≤ 1000 by omega) (K := K) (by omega)
  simp only [F_gantrylaw09_MatrixProducts, e1, e2, oB, g2 K (by omega), q2 K (by omega), x2 K (by omega), m1, Turn_ok (g := g) hc (show h ≤ 64 by omega) (show w ≤ 64 by omega) (K := K) (by omega), Turn_bad m2 (K := K) (by omega), Mul_bad1 (N := mx q o v) m2 (K := K) (by omega), Mul_bad2 (g := q) hc' (show o ≤ 64 by omega) (show v ≤ 64 by omega) m2 (K := K) (by omega), Apply_bad (x := mp x o) m2 (K := K) (by omega), Bad_ok m2 (K := K) (by omega), Valid_ok (g := g) hc (show h ≤ 64 by omega) (show w ≤ 64 by omega) (K := K) (by omega), rTurn_ok (g := g) hc (show h ≤ 100 by omega) (show w ≤ 100 by omega) (K := K) (by omega), s1, nF (rfl : (1 : Int) = 1), cF0, Bool.not_true, nF (rfl : (0 : Int) = 0)]
  by_cases hne : w = o
  · subst hne
    have gv : ∀ c, c < w → Bd 100 (x c) := fun c hc' => (x1 c hc').mono (by omega)
    have hw' : w * (100 + 100 + 1) ≤ 5 * 201 := Nat.mul_le_mul_right _ hw
    have s2 := SameM (mulM_bd g1 q1 (by omega) (by omega)) (by omega) (show h ≤ 1000 by omega) (show v ≤ 1000 by omega) (K := K) (by omega)
    have s3 := SameRow_ok (l := mp (mulV g x w) h) (mp_bds fun i hi => mulV_bd g1 gv (by omega) (by omega) hi) (by omega) (by rw [mp_len]; omega) (K := K) (by rw [mp_len]; omega)
    simp only [nF (rfl : (w : Int) = (w : Int)), cF0, Mul_ok g1 q1 hc hc' (by omega) (show h ≤ 64 by omega) (show w ≤ 64 by omega) (show v ≤ 64 by omega) (K := K) (by omega), rMul_ok g1 q1 hc' (by omega) (show h ≤ 64 by omega) (show w ≤ 64 by omega) (show v ≤ 64 by omega) (K := K) (by omega), Apply_ok g1 gv hc (by omega) (show h ≤ 64 by omega) (show w ≤ 64 by omega) (K := K) (by omega), rApply_ok g1 gv (by omega) (show h ≤ 100 by omega) (show w ≤ 100 by omega) (K := K) (by omega), oB, s2, s3, qT (rfl : (0 : Int) = 0), cT0, hlv]
  · simp only [nT (show (w : Int) ≠ (o : Int) by omega), cT0, Mul_no (g := g) (q := q) hc hc' (show h ≤ 64 by omega) (show w ≤ 64 by omega) (show o ≤ 64 by omega) (show v ≤ 64 by omega) hne (K := K) (by omega), Apply_no (g := g) (x := mp x o) hc (show h ≤ 64 by omega) (show w ≤ 64 by omega) (by rw [mp_len]; omega) (K := K) (by omega), oB, qT (rfl : (1 : Int) = 1), hlv]
    rfl
end Go.Proofs.YtkjnngaceacmdaaGreat
