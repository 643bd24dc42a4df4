/- Matrices: the reduced rows, and what gantryref09.Reduced computes. -/
import Derived.Test.YtkjnngaceacmdaaGreatLB
set_option linter.unusedVariables false
namespace Go.Proofs.YtkjnngaceacmdaaGreat

/-- A matrix of h rows and w columns. -/
def mx (g : Nat → Nat → Rat) (h w : Nat) : List (List Rat) := mp (fun i => mp (g i) w) h
theorem mx_congr {g g' : Nat → Nat → Rat} {h w : Nat} (e : ∀ i c, i < h → c < w → g i c = g' i c) : mx g h w = mx g' h w :=
  mp_congr fun i hi => mp_congr fun c hc => e i c hi hc
theorem mx_set {g : Nat → Nat → Rat} {h w i : Nat} {f : Nat → Rat} : mp (upd (fun i => mp (g i) w) i (mp f w)) h = mx (upd g i f) h w := by
  refine mp_congr fun j _ => ?_
  unfold upd
  split <;> rfl
theorem stMx {g : Nat → Nat → Rat} {h w i : Nat} {f : Nat → Rat} (hi : i < h) : stL (mx g h w) (i : Int) (mp f w) = some (mx (upd g i f) h w) := by
  unfold mx
  rw [stMp hi, mx_set]; rfl
theorem rdMx {g : Nat → Nat → Rat} {h w i : Nat} (hi : i < h) : rdL (mx g h w) (i : Int) = some (mp (g i) w) := rdMp hi
theorem mx_len {g : Nat → Nat → Rat} {h w : Nat} : (mx g h w).length = h := mp_len _ _
/-- All numbers of a matrix are small. -/
def Bdx (h w b : Nat) (g : Nat → Nat → Rat) : Prop := ∀ i c, i < h → c < w → Bd b (g i c)
theorem Bdx.mono {h w b b' : Nat} {g : Nat → Nat → Rat} (hg : Bdx h w b g) (hb : b ≤ b') : Bdx h w b' g := fun i c hi hc => (hg i c hi hc).mono hb
/-- The first row from i on, among t, that has no 0 in the column k. -/
def piv (g : Nat → Nat → Rat) (k : Nat) : Nat → Nat → Nat
  | 0, i => i
  | t + 1, i => if g i k = 0 then piv g k t (i + 1) else i
theorem piv_le {g : Nat → Nat → Rat} {k : Nat} : ∀ (t i : Nat), i ≤ piv g k t i ∧ piv g k t i ≤ i + t
  | 0, i => ⟨Nat.le_refl _, Nat.le_refl _⟩
  | t + 1, i => by
    have h := piv_le (g := g) (k := k) t (i + 1)
    unfold piv
    split <;> omega
theorem piv_z {g : Nat → Nat → Rat} {k : Nat} : ∀ (t i j : Nat), i ≤ j → j < piv g k t i → g j k = 0
  | 0, i, j, h1, h2 => by simp only [piv] at h2; omega
  | t + 1, i, j, h1, h2 => by
    unfold piv at h2
    split at h2
    · rename_i hz
      by_cases he : j = i
      · rw [he]; exact hz
      · exact piv_z t (i + 1) j (by omega) h2
    · omega
theorem piv_n {g : Nat → Nat → Rat} {k : Nat} : ∀ (t i : Nat), piv g k t i < i + t → g (piv g k t i) k ≠ 0
  | 0, i, h => by simp only [piv] at h; omega
  | t + 1, i, h => by
    unfold piv at h ⊢
    split at h
    · rename_i hz
      rw [if_pos hz]
      exact piv_n t (i + 1) (by omega)
    · rename_i hz
      rw [if_neg hz]; exact hz
/-- The rows with n and at exchanged. -/
def swp (g : Nat → Nat → Rat) (n at0 i : Nat) : Nat → Rat := g (if i = n then at0 else if i = at0 then n else i)
/-- The row of the pivot. -/
def pr (g : Nat → Nat → Rat) (at0 k c : Nat) : Rat := g at0 c / g at0 k
/-- One step: the column k gets a pivot in the row n. -/
def stp (g : Nat → Nat → Rat) (n at0 k i c : Nat) : Rat := if i = n then pr g at0 k c else swp g n at0 i c - swp g n at0 i k * pr g at0 k c
/-- The state: pivots, rows, determinant of what was done. -/
structure RS where
  ps : List Nat
  g : Nat → Nat → Rat
  d : Rat
def rdStep (h k : Nat) (s : RS) : RS :=
  if piv s.g k (h - s.ps.length) s.ps.length = h then s
  else ⟨s.ps ++ [k], stp s.g s.ps.length (piv s.g k (h - s.ps.length) s.ps.length) k, (if piv s.g k (h - s.ps.length) s.ps.length = s.ps.length then s.d else -s.d) * s.g (piv s.g k (h - s.ps.length) s.ps.length) k⟩
/-- The reduction of the first k columns. -/
def red (g : Nat → Nat → Rat) (h : Nat) : Nat → RS
  | 0 => ⟨[], g, 1⟩
  | k + 1 => rdStep h k (red g h k)
/-- What holds of the state. -/
structure RI (h w b k : Nat) (s : RS) : Prop where
  ph : s.ps.length ≤ h
  pk : ∀ j, j ∈ s.ps → j < k
  z : ∀ i c, s.ps.length ≤ i → i < h → c < k → s.g i c = 0
  bd : Bdx h w (5 ^ k * b) s.g
  bdd : Bd (5 ^ k * b) s.d
theorem pr_bd {g : Nat → Nat → Rat} {h w b at0 k c : Nat} (hg : Bdx h w b g) (ha : at0 < h) (hk : k < w) (hc : c < w) : Bd (b + b) (pr g at0 k c) := (hg _ _ ha hc).div (hg _ _ ha hk)
theorem swp_lt {h n at0 i : Nat} (hn : n < h) (ha : at0 < h) (hi : i < h) : (if i = n then at0 else if i = at0 then n else i) < h := by split; exact ha; split; exact hn; exact hi
theorem swp_bd {g : Nat → Nat → Rat} {h w b n at0 i c : Nat} (hg : Bdx h w b g) (hn : n < h) (ha : at0 < h) (hi : i < h) (hc : c < w) : Bd b (swp g n at0 i c) := hg _ _ (swp_lt hn ha hi) hc
theorem stp_bd {g : Nat → Nat → Rat} {h w b n at0 k : Nat} (hg : Bdx h w b g) (hb : 1 ≤ b) (hn : n < h) (ha : at0 < h) (hk : k < w) : Bdx h w (5 * b) (stp g n at0 k) := fun i c hi hc => by
  unfold stp
  split
  · exact (pr_bd hg ha hk hc).mono (by omega)
  · exact ((swp_bd hg hn ha hi hc).sub ((swp_bd hg hn ha hi hk).mul (pr_bd hg ha hk hc))).mono (by omega)
theorem pow_pos5 (k b : Nat) (hb : 2 ≤ b) : 2 ≤ 5 ^ k * b := Nat.le_trans hb (Nat.le_mul_of_pos_left b (Nat.pow_pos (by omega)))
theorem rdStep_ok {h w b k : Nat} {s : RS} (hs : RI h w b k s) (hb : 2 ≤ b) (hk : k < w) : RI h w b (k + 1) (rdStep h k s) := by
  have hp := piv_le (g := s.g) (k := k) (h - s.ps.length) s.ps.length
  have hl : s.ps.length + (h - s.ps.length) = h := by have := hs.ph; omega
  have h5 : 5 ^ (k + 1) * b = 5 * (5 ^ k * b) := by rw [Nat.pow_succ, Nat.mul_comm (5 ^ k) 5, Nat.mul_assoc]
  have hb' := pow_pos5 k b hb
  unfold rdStep
  split
  · rename_i hat
    refine ⟨hs.ph, fun j hj => Nat.lt_succ_of_lt (hs.pk j hj), fun i c hi hh hc => ?_, hs.bd.mono (by omega), hs.bdd.mono (by omega)⟩
    by_cases he : c = k
    · subst he; exact piv_z (h - s.ps.length) s.ps.length i hi (by omega)
    · exact hs.z i c hi hh (by omega)
  · rename_i hat
    have hlt : piv s.g k (h - s.ps.length) s.ps.length < h := by omega
    have hne := piv_n (g := s.g) (k := k) (h - s.ps.length) s.ps.length (by omega)
    generalize ha : piv s.g k (h - s.ps.length) s.ps.length = at0 at *
    refine ⟨by simp only [List.length_append, List.length_singleton]; omega, fun j hj => ?_, fun i c hi hh hc => ?_, ?_, ?_⟩
    · simp only [List.mem_append, List.mem_singleton] at hj
      rcases hj with hj | hj
      · exact Nat.lt_succ_of_lt (hs.pk j hj)
      · omega
    · simp only [List.length_append, List.length_singleton] at hi
      have hz : ∀ c', c' < k → s.g at0 c' = 0 := fun c' hc' => hs.z at0 c' hp.1 hlt hc'
      show stp s.g s.ps.length at0 k i c = 0
      unfold stp
      rw [if_neg (by omega)]
      by_cases he : c = k
      · subst he
        unfold pr
        rw [Rat.div_def, Rat.mul_inv_cancel _ hne, Rat.mul_one, Rat.sub_self]
      · unfold pr
        rw [hz c (by omega)]
        have : swp s.g s.ps.length at0 i c = 0 := by
          unfold swp
          rw [if_neg (by omega)]
          split
          · exact hs.z _ c (Nat.le_refl _) (by omega) (by omega)
          · exact hs.z _ c (by omega) hh (by omega)
        rw [this]
        grind
    · rw [h5]
      exact stp_bd hs.bd (by omega) (by omega) hlt hk
    · rw [h5]
      refine Bd.mono (Bd.mul (m := 5 ^ k * b) ?_ (hs.bd _ _ hlt hk)) (by omega)
      split
      · exact hs.bdd
      · exact hs.bdd.neg
theorem red_ok {g : Nat → Nat → Rat} {h w b : Nat} (hg : Bdx h w b g) (hb : 2 ≤ b) : ∀ k, k ≤ w → RI h w b k (red g h k)
  | 0, _ => ⟨Nat.zero_le _, fun j hj => by simp [red] at hj, fun i c _ _ hc => absurd hc (by omega), by simpa [red] using hg, by
      have : Bd 2 1 := by constructor <;> decide
      simpa [red] using this.mono hb⟩
  | k + 1, hk => rdStep_ok (red_ok hg hb k (by omega)) hb (by omega)
theorem over_l24 {f : Nat → Rat} {w b : Nat} {d : Rat} (hf : ∀ c, c < w → Bd b (f c)) (hd : Bd b d) (hb : b ≤ 1073741824) (hw : w ≤ 1000) (K : Nat) : ∀ (t i k : Nat), i + t = w → t < k → F_gantryref09_over_l24 K (mp f w) d k (mp (fun c => f c / d) i) (i : Int) = some (mp (fun c => f c / d) w)
  | 0, i, k, hi, hk => by
    have : i = w := by omega
    subst this
    obtain ⟨k', rfl, _⟩ := fuel hk
    simp only [F_gantryref09_over_l24, mp_len, dF (show ¬ (i : Int) < (i : Int) by omega), cF0]
  | t + 1, i, k, hi, hk => by
    obtain ⟨k', rfl, _⟩ := fuel hk
    simp only [F_gantryref09_over_l24, mp_len, dT (show (i : Int) < (w : Int) by omega), cT0, rdMp (f := f) (show i < w by omega), qdiv_ok (hf i (by omega)) hd hb hb, oB, apM (g := fun c => f c / d) (i := i) (by omega), ckS (i := i) (by omega)]
    exact over_l24 hf hd hb hw K t (i + 1) k' (by omega) (by omega)
theorem over_ok {f : Nat → Rat} {w b : Nat} {d : Rat} (hf : ∀ c, c < w → Bd b (f c)) (hd : Bd b d) (hb : b ≤ 1073741824) (hw : w ≤ 1000) {K : Nat} (hK : w < K) : F_gantryref09_over K (mp f w) d = some (mp (fun c => f c / d) w) := by
  have := over_l24 hf hd hb hw K w 0 K (by omega) hK
  simp only [Int.natCast_zero, mp_zero] at this
  simp only [F_gantryref09_over, this, oB, F_gantryref09_over_j25]
theorem less_l24 {f e : Nat → Rat} {w b b' : Nat} {d : Rat} (hf : ∀ c, c < w → Bd b (f c)) (he : ∀ c, c < w → Bd b' (e c)) (hd : Bd b d) (hb : b + b + b' ≤ 1073741824) (hw : w ≤ 1000) (K : Nat) : ∀ (t i k : Nat), i + t = w → t < k → F_gantryref09_less_l26 K (mp f w) (mp e w) d k (mp (fun c => f c - d * e c) i) (i : Int) = some (mp (fun c => f c - d * e c) w)
  | 0, i, k, hi, hk => by
    have : i = w := by omega
    subst this
    obtain ⟨k', rfl, _⟩ := fuel hk
    simp only [F_gantryref09_less_l26, mp_len, dF (show ¬ (i : Int) < (i : Int) by omega), cF0]
  | t + 1, i, k, hi, hk => by
    obtain ⟨k', rfl, _⟩ := fuel hk
    simp only [F_gantryref09_less_l26, mp_len, dT (show (i : Int) < (w : Int) by omega), cT0, rdMp (f := f) (show i < w by omega), rdMp (f := e) (show i < w by omega), qmul_ok hd (he i (by omega)) (by omega) (by omega), qsub_ok (hf i (by omega)) (hd.mul (he i (by omega))) (by omega) (by omega), oB, apM (g := fun c => f c - d * e c) (i := i) (by omega), ckS (i := i) (by omega)]
    exact less_l24 hf he hd hb hw K t (i + 1) k' (by omega) (by omega)
theorem less_ok {f e : Nat → Rat} {w b b' : Nat} {d : Rat} (hf : ∀ c, c < w → Bd b (f c)) (he : ∀ c, c < w → Bd b' (e c)) (hd : Bd b d) (hb : b + b + b' ≤ 1073741824) (hw : w ≤ 1000) {K : Nat} (hK : w < K) : F_gantryref09_less K (mp f w) (mp e w) d = some (mp (fun c => f c - d * e c) w) := by
  have := less_l24 hf he hd hb hw K w 0 K (by omega) hK
  simp only [Int.natCast_zero, mp_zero] at this
  simp only [F_gantryref09_less, this, oB, F_gantryref09_less_j27]
theorem Red_l56 {g : Nat → Nat → Rat} {h w b c : Nat} (hg : Bdx h w b g) (hb : b ≤ 1073741824) (hh : h ≤ 1000) (hc : c < w) (K : Nat) : ∀ (t i k : Nat), i + t = h → t < k → F_gantryref09_Reduced_l56 K (mx g h w) (c : Int) k (i : Int) = some ((piv g c t i : Nat) : Int)
  | 0, i, k, hi, hk => by
    have : i = h := by omega
    subst this
    obtain ⟨k', rfl, _⟩ := fuel hk
    simp only [F_gantryref09_Reduced_l56, mx_len, dF (show ¬ (i : Int) < (i : Int) by omega), cF0, piv]
  | t + 1, i, k, hi, hk => by
    obtain ⟨k', rfl, _⟩ := fuel hk
    have hx := hg i c (by omega) hc
    have hm : min (i : Int) ((h : Int) - 1) = (i : Int) := by omega
    simp only [F_gantryref09_Reduced_l56, mx_len, dT (show (i : Int) < (h : Int) by omega), cT0, ckO (x := (h : Int) - 1) (by omega), oB, hm, rdMx (g := g) (w := w) (show i < h by omega), rdMp (f := g i) hc, qsgn_ok hx hb, piv]
    by_cases hz : g i c = 0
    · simp only [qT (sgn0.2 hz), cT0, if_pos hz, ckS (i := i) (by omega), oB]
      exact Red_l56 hg hb hh hc K t (i + 1) k' (by omega) (by omega)
    · simp only [qF (fun h => hz (sgn0.1 h)), cF0, if_neg hz]
theorem Red_l98 {s : Nat → Nat → Rat} {e : Nat → Rat} {h w b b' c : Nat} (hs : Bdx h w b s) (he : ∀ j, j < w → Bd b' (e j)) (hb : b + b + b' ≤ 1073741824) (hh : h ≤ 1000) (hw : w ≤ 1000) (hc : c < w) {K : Nat} (hK : w < K) : ∀ (t i k : Nat), i + t = h → t < k →
    F_gantryref09_Reduced_l98 K (c : Int) (mp e w) k (mx (fun j x => if j < i then s j x - s j c * e x else s j x) h w) (i : Int) = some (mx (fun j x => s j x - s j c * e x) h w)
  | 0, i, k, hi, hk => by
    have : i = h := by omega
    subst this
    obtain ⟨k', rfl, _⟩ := fuel hk
    simp only [F_gantryref09_Reduced_l98, mx_len, dF (show ¬ (i : Int) < (i : Int) by omega), cF0]
    rw [mx_congr fun j x hj hx => if_pos hj]
  | t + 1, i, k, hi, hk => by
    obtain ⟨k', rfl, _⟩ := fuel hk
    have e1 : (fun x => if i < i then s i x - s i c * e x else s i x) = s i := by funext x; exact if_neg (Nat.lt_irrefl _)
    have r1 := rdMx (g := fun j x => if j < i then s j x - s j c * e x else s j x) (w := w) (show i < h by omega)
    simp only [e1] at r1
    simp only [F_gantryref09_Reduced_l98, mx_len, dT (show (i : Int) < (h : Int) by omega), cT0, r1, oB, rdMp (f := s i) hc, less_ok (fun x hx => hs i x (by omega) hx) he (hs i c (by omega) hc) hb hw hK, stMx (g := fun j x => if j < i then s j x - s j c * e x else s j x) (w := w) (show i < h by omega), ckS (i := i) (by omega)]
    rw [mx_congr (g' := fun j x => if j < i + 1 then s j x - s j c * e x else s j x) fun j x hj hx => ?_]
    · exact Red_l98 hs he hb hh hw hc hK t (i + 1) k' (by omega) (by omega)
    · by_cases hji : j = i
      · subst hji; rw [upd_same, if_pos (by omega)]
      · rw [upd_ne hji]
        by_cases hlt : j < i
        · rw [if_pos hlt, if_pos (by omega)]
        · rw [if_neg hlt, if_neg (by omega)]
def ints (l : List Nat) : List Int := l.map fun (k : Nat) => (k : Int)
theorem ints_len (l : List Nat) : (ints l).length = l.length := by simp [ints]
theorem ints_snoc (l : List Nat) (k : Nat) : ints (l ++ [k]) = ints l ++ [(k : Int)] := by simp [ints]
theorem apI {l : List Nat} {k : Nat} (h : l.length ≤ 1000000) : apL (ints l) [(k : Int)] = some (ints (l ++ [k])) := by rw [ints_snoc]; exact apS (by rw [ints_len]; omega)
theorem pow5_le {i w b : Nat} (hi : i ≤ w) : 5 ^ i * b ≤ 5 ^ w * b := Nat.mul_le_mul_right b (Nat.pow_le_pow_right (by omega) hi)
theorem Red_l50 {g : Nat → Nat → Rat} {h w n b : Nat} (hg : Bdx h w b g) (hb : 2 ≤ b) (hn : n ≤ w) (hB : 5 ^ n * b ≤ 200000000) (hh : h ≤ 1000) (hw : w ≤ 1000) {K : Nat} (hK : w + h < K) : ∀ (t i k : Nat), i + t = n → t < k →
    F_gantryref09_Reduced_l50 K (n : Int) k (ints (red g h i).ps) (mx (red g h i).g h w) (i : Int) = some (ints (red g h n).ps, mx (red g h n).g h w)
  | 0, i, k, hi, hk => by
    have : i = n := by omega
    subst this
    obtain ⟨k', rfl, _⟩ := fuel hk
    simp only [F_gantryref09_Reduced_l50, dF (show ¬ (i : Int) < (i : Int) by omega), cF0]
  | t + 1, i, k, hi, hk => by
    obtain ⟨k', rfl, _⟩ := fuel hk
    have hs := red_ok hg hb i (by omega)
    have ih := Red_l50 hg hb hn hB hh hw hK t (i + 1) k' (by omega) (by omega)
    have h5 : 5 ^ i * b ≤ 200000000 := Nat.le_trans (pow5_le (by omega)) hB
    simp only [red] at ih
    generalize red g h i = s at *
    have hp := piv_le (g := s.g) (k := i) (h - s.ps.length) s.ps.length
    have hl : s.ps.length + (h - s.ps.length) = h := by have := hs.ph; omega
    simp only [F_gantryref09_Reduced_l50, dT (show (i : Int) < (n : Int) by omega), cT0, ints_len, Red_l56 hs.bd (by omega) hh (show i < w by omega) K (h - s.ps.length) s.ps.length K hl (by omega), oB, F_gantryref09_Reduced_j57, mx_len]
    unfold rdStep at ih
    by_cases hat : piv s.g i (h - s.ps.length) s.ps.length = h
    · rw [if_pos hat] at ih
      simp only [qT (show ((piv s.g i (h - s.ps.length) s.ps.length : Nat) : Int) = (h : Int) by omega), cT0, ckS (i := i) (by omega), oB]
      exact ih
    · rw [if_neg hat] at ih
      have hlt : piv s.g i (h - s.ps.length) s.ps.length < h := by omega
      generalize ha : piv s.g i (h - s.ps.length) s.ps.length = at0 at *
      have hov := over_ok (f := s.g at0) (d := s.g at0 i) (fun c hc => hs.bd at0 c hlt hc) (hs.bd at0 i hlt (by omega)) (by omega) hw (K := K) (by omega)
      have hsb : Bdx h w (5 ^ i * b) (upd s.g at0 (s.g s.ps.length)) := fun j c hj hc => by
        by_cases he : j = at0
        · rw [he, upd_same]; exact hs.bd _ _ (by omega) hc
        · rw [upd_ne he]; exact hs.bd _ _ hj hc
      have h98 := Red_l98 (c := i) hsb (fun j hj => pr_bd hs.bd hlt (show i < w by omega) hj) (by omega) hh hw (by omega) (K := K) (by omega) h 0 K (by omega) (by omega)
      simp only [Int.natCast_zero, Nat.not_lt_zero, if_false] at h98
      simp only [qF (show ¬ ((at0 : Nat) : Int) = (h : Int) by omega), cF0, rdMx (g := s.g) (w := w) hlt, rdMx (g := s.g) (w := w) (show s.ps.length < h by omega), oB, rdMp (f := s.g at0) (show i < w by omega), hov, stMx (g := s.g) (w := w) hlt]
      have hp' : (mp (fun c => s.g at0 c / s.g at0 i) w) = mp (pr s.g at0 i) w := rfl
      rw [hp', h98]
      simp only [oB, F_gantryref09_Reduced_j99, ints_len]
      rw [rdMx (show s.ps.length < h by omega)]
      simp only [oB]
      rw [stMx (show s.ps.length < h by omega)]
      simp only [oB, apI (k := i) (l := s.ps) (by have := hs.ph; omega), ckS (i := i) (by omega)]
      rw [mx_congr (g' := stp s.g s.ps.length at0 i) fun j x hj hx => ?_]
      · exact ih
      · unfold stp
        by_cases he : j = s.ps.length
        · rw [if_pos he, he, upd_same]
        · rw [if_neg he, upd_ne he]
          have e2 : upd s.g at0 (s.g s.ps.length) j = swp s.g s.ps.length at0 j := by
            unfold upd swp
            rw [if_neg he]
            split <;> rfl
          rw [e2]
theorem Reduced_ok {g : Nat → Nat → Rat} {h w n b : Nat} (hg : Bdx h w b g) (hb : 2 ≤ b) (hn : n ≤ w) (hB : 5 ^ n * b ≤ 200000000) (hh : h ≤ 1000) (hw : w ≤ 1000) {K : Nat} (hK : w + h < K) : F_gantryref09_Reduced K (mx g h w) (n : Int) = some (mx (red g h n).g h w, ints (red g h n).ps) := by
  have := Red_l50 hg hb hn hB hh hw hK n 0 K (by omega) (by omega)
  simp only [Int.natCast_zero, red] at this
  have e : ints [] = [] := rfl
  rw [e] at this
  have e2 : apL ([] : List (List Rat)) (mx g h w) = some (mx g h w) := by rw [apL_ok (by rw [mx_len, List.length_nil]; omega), List.nil_append]
  simp only [F_gantryref09_Reduced, e2, oB, this, F_gantryref09_Reduced_j51]
end Go.Proofs.YtkjnngaceacmdaaGreat
