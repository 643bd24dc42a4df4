/- More of package matrix: Rank, Det, Inverse, Positive; products of numbers of other sizes. -/
import Derived.Test.YtkjnngaceacmdaaGreatMU
set_option linter.unusedVariables false
namespace Go.Proofs.YtkjnngaceacmdaaGreat

theorem Cok_self (n : Nat) : Cok n n := fun h => h
theorem square_ok {g : Nat → Nat → Rat} {n : Nat} (hn : n ≤ 64) {K : Nat} (hK : n < K) : F_matrix_square K (mx g n n) = some true := by
  simp only [F_matrix_square, Valid_ok (Cok_self n) hn hn (K := K) hK, oB, cT0, cols_ok (Cok_self n), mx_len, qT (rfl : (n : Int) = (n : Int))]
theorem square_no {g : Nat → Nat → Rat} {h w : Nat} (hc : Cok h w) (hh : h ≤ 64) (hw : w ≤ 64) (hne : h ≠ w) {K : Nat} (hK : h < K) : F_matrix_square K (mx g h w) = some false := by
  simp only [F_matrix_square, Valid_ok hc hh hw (K := K) hK, oB, cT0, cols_ok hc, mx_len, qF (show ¬ (h : Int) = (w : Int) by omega)]
theorem square_bad {M : List (List Rat)} (hM : Bad M) {K : Nat} (hK : 64 < K) : F_matrix_square K M = some false := by
  simp only [F_matrix_square, Bad_ok hM hK, oB, cF0]
theorem unit_row {n i : Nat} : mp (upd (fun _ => (0 : Rat)) i 1) n = mp (unitM i) n := mp_congr fun c _ => by
  unfold unitM
  by_cases h : i = c
  · subst h; rw [upd_same, if_pos rfl]
  · rw [upd_ne (fun e => h e.symm), if_neg h]
theorem unit_bd {b : Nat} (hb : 2 ≤ b) (i c : Nat) : Bd b (unitM i c) := by
  unfold unitM
  split
  · exact (show Bd 2 1 by constructor <;> decide).mono hb
  · exact Bd.zero.mono (by omega)
theorem Unit_l23 {n : Nat} (hn : n ≤ 1000) (K : Nat) : ∀ (t i k : Nat), i + t = n → t < k → F_gantryref09_Unit_l23 K (n : Int) k (mx unitM i n) (i : Int) = some (mx unitM n n)
  | 0, i, k, hi, hk => by
    obtain ⟨k', rfl, _⟩ := fuel hk
    have : i = n := by omega
    subst this
    simp only [F_gantryref09_Unit_l23, dF (show ¬ (i : Int) < (i : Int) by omega), cF0]
  | t + 1, i, k, hi, hk => by
    obtain ⟨k', rfl, _⟩ := fuel hk
    have hl : i < n := by omega
    have e4 : apL (mx unitM i n) [mp (unitM i) n] = some (mx unitM (i + 1) n) := apM (g := fun i => mp (unitM i) n) (by omega)
    simp only [F_gantryref09_Unit_l23, dT (show (i : Int) < (n : Int) by omega), cT0, mkMp (z := (0 : Rat)) (n := n) (by omega), oB, qof11, rdMp (f := fun _ => (0 : Rat)) hl, stMp (f := fun _ => (0 : Rat)) hl, unit_row, e4, ckS (i := i) (by omega)]
    exact Unit_l23 hn K t (i + 1) k' (by omega) (by omega)
theorem Unit_ok {n : Nat} (hn : n ≤ 1000) {K : Nat} (hK : n < K) : F_gantryref09_Unit K (n : Int) = some (mx unitM n n) := by
  have := Unit_l23 hn K n 0 K (by omega) hK
  have z : mx unitM 0 n = [] := rfl
  rw [z] at this
  simp only [Int.natCast_zero] at this
  simp only [F_gantryref09_Unit, this, oB, F_gantryref09_Unit_j24]
/-- A matrix and the unit matrix. -/
def wun (g : Nat → Nat → Rat) (n i c : Nat) : Rat := if c < n then g i c else unitM i (c - n)
theorem wun_bd {g : Nat → Nat → Rat} {n b : Nat} (hg : Bdx n n b g) (hb : 2 ≤ b) : Bdx n (n + n) b (wun g n) := fun i c hi hc => by
  unfold wun
  split
  · rename_i h; exact hg i c hi h
  · exact unit_bd hb _ _
theorem mp_app {α : Type} {f e : Nat → α} {m : Nat} : ∀ n, mp f m ++ mp e n = mp (fun c => if c < m then f c else e (c - m)) (m + n)
  | 0 => by
    rw [mp_zero, List.append_nil, Nat.add_zero]
    exact mp_congr fun c hc => by rw [if_pos hc]
  | n + 1 => by
    rw [mp_succ, ← List.append_assoc, mp_app n, ← Nat.add_assoc, mp_succ, if_neg (by omega), show m + n - m = n by omega]
theorem wun_row {g : Nat → Nat → Rat} {n i : Nat} : mp (g i) n ++ mp (unitM i) n = mp (wun g n i) (n + n) := mp_app n
theorem Grow_ok {n : Nat} (hn : n ≤ 1000000) : F_slices_Grow_Rat (n : Int) = some ([] : List Rat) := by
  have e1 : chk (((0 : Nat) : Int) - (([] : List Rat).length : Int)) = some 0 := rfl
  have e2 : chk ((n : Int) - 0) = some (n : Int) := ckN (m := 0) (by omega) (by omega)
  simp only [F_slices_Grow_Rat, dF (show ¬ (n : Int) < 0 by omega), cF0, e1, oB, e2]
  by_cases h : n = 0
  · subst h; rfl
  · simp only [dT (show 0 < (n : Int) by omega), cT0, mkP, if_pos (show 0 < (n : Int) by omega), mkL_ok (show n ≤ 68719476736 by omega), oB]
theorem Concat_ok {a b : List Rat} (ha : a.length ≤ 1000) (hb : b.length ≤ 1000) {K : Nat} (hK : 3 < K) : F_slices_Concat_Rat K [a, b] = some (a ++ b) := by
  obtain ⟨k, rfl⟩ : ∃ k, K = k + 3 := ⟨K - 3, by omega⟩
  have r0 : rdL [a, b] 0 = some a := rfl
  have r1 : rdL [a, b] 1 = some b := rfl
  have c1 : chk (0 + (a.length : Int)) = some (a.length : Int) := ckN (m := 0) (by omega) (by omega)
  have c2 : chk ((a.length : Int) + (b.length : Int)) = some ((a.length + b.length : Nat) : Int) := ckN (m := 0) (by omega) (by omega)
  have c3 : chk (0 + 1) = some 1 := rfl
  have c4 : chk (1 + 1) = some 2 := rfl
  have l2 : (([a, b].length : Nat) : Int) = 2 := rfl
  have a1 : apL ([] : List Rat) a = some a := by rw [apL_ok (by rw [List.length_nil]; omega), List.nil_append]
  have a2 : apL a b = some (a ++ b) := apL_ok (by omega)
  simp only [F_slices_Concat_Rat, F_slices_Concat_Rat_l6, l2, dT (show (0 : Int) < 2 by omega), dT (show (1 : Int) < 2 by omega), dF (show ¬ (2 : Int) < 2 by omega), cT0, cF0, r0, r1, oB, c1, c2, c3, c4, dF (show ¬ (a.length : Int) < 0 by omega), dF (show ¬ ((a.length + b.length : Nat) : Int) < 0 by omega), F_slices_Concat_Rat_j7, Grow_ok (show a.length + b.length ≤ 1000000 by omega), F_slices_Concat_Rat_l36, a1, a2, F_slices_Concat_Rat_j37]
theorem Inverse_l26 {g : Nat → Nat → Rat} {n : Nat} (hn : n ≤ 64) {K : Nat} (hK : 3 < K) : ∀ (t i k : Nat), i + t = n → t < k → F_matrix_Inverse_l26 K (mx g n n) k (mx (wun g n) i (n + n)) (i : Int) = some (mx (wun g n) n (n + n))
  | 0, i, k, hi, hk => by
    obtain ⟨k', rfl, _⟩ := fuel hk
    have : i = n := by omega
    subst this
    simp only [F_matrix_Inverse_l26, mx_len, dF (show ¬ (i : Int) < (i : Int) by omega), cF0]
  | t + 1, i, k, hi, hk => by
    obtain ⟨k', rfl, _⟩ := fuel hk
    have hl : i < n := by omega
    have e4 : apL (mx (wun g n) i (n + n)) [mp (wun g n i) (n + n)] = some (mx (wun g n) (i + 1) (n + n)) := apM (g := fun i => mp (wun g n i) (n + n)) (by omega)
    simp only [F_matrix_Inverse_l26, mx_len, dT (show (i : Int) < (n : Int) by omega), cT0, rdMx (g := g) (w := n) hl, mkMp (z := (0 : Rat)) (n := n) (by omega), oB, qof11, rdMp (f := fun _ => (0 : Rat)) hl, stMp (f := fun _ => (0 : Rat)) hl, unit_row, Concat_ok (a := mp (g i) n) (b := mp (unitM i) n) (by rw [mp_len]; omega) (by rw [mp_len]; omega) hK, wun_row, e4, ckS (i := i) (by omega)]
    exact Inverse_l26 hn hK t (i + 1) k' (by omega) (by omega)
theorem Inverse_l54 {G : Nat → Nat → Rat} {ps : List Int} {d : Rat} {g : Nat → Nat → Rat} {n : Nat} (hn : n ≤ 64) (K : Nat) : ∀ (t i k : Nat), i + t = n → t < k → F_matrix_Inverse_l54 K (mx g n n) ⟨mx G n (n + n), ps, d⟩ k (mx (fun i c => G i (n + c)) i n) (i : Int) = some (mx (fun i c => G i (n + c)) n n)
  | 0, i, k, hi, hk => by
    obtain ⟨k', rfl, _⟩ := fuel hk
    have : i = n := by omega
    subst this
    simp only [F_matrix_Inverse_l54, mx_len, dF (show ¬ (i : Int) < (i : Int) by omega), cF0]
  | t + 1, i, k, hi, hk => by
    obtain ⟨k', rfl, _⟩ := fuel hk
    have hl : i < n := by omega
    have e3 := slMp (f := G i) (n := n + n) (i := n) (by omega)
    rw [show n + n - n = n by omega] at e3
    have e4 : apL (mx (fun i c => G i (n + c)) i n) [mp (fun c => G i (n + c)) n] = some (mx (fun i c => G i (n + c)) (i + 1) n) := apM (g := fun i => mp (fun c => G i (n + c)) n) (by omega)
    simp only [F_matrix_Inverse_l54, mx_len, dT (show (i : Int) < (n : Int) by omega), cT0, rdMx (g := G) (w := n + n) hl, oB, mp_len, e3, e4, ckS (i := i) (by omega)]
    exact Inverse_l54 hn K t (i + 1) k' (by omega) (by omega)
/-- The inverse. -/
def invM (g : Nat → Nat → Rat) (n i c : Nat) : Rat := (red (wun g n) n n).g i (n + c)
theorem wun_ps {g : Nat → Nat → Rat} {n : Nat} : (red (wun g n) n n).ps.length = rank g n n := by
  rw [(red_agree (g := wun g n) (g' := g) (h := n) (w := n) (fun i c hc => by unfold wun; rw [if_pos hc]) n (Nat.le_refl _)).1]; rfl
theorem Inverse_ok {g : Nat → Nat → Rat} {n b : Nat} (hg : Bdx n n b g) (hb : 2 ≤ b) (hB : 5 ^ n * b ≤ 200000000) (hn : n ≤ 64) {K : Nat} (hK : 3 + n + n + n < K) : F_matrix_Inverse K (mx g n n) = some (if rank g n n = n then (mx (invM g n) n n, 0) else ([], 6)) := by
  have h26 := Inverse_l26 (g := g) hn (K := K) (by omega) n 0 K (by omega) (by omega)
  have z : mx (wun g n) 0 (n + n) = [] := rfl
  rw [z] at h26
  simp only [Int.natCast_zero] at h26
  have hr := reduce_ok (wun_bd hg hb) hb (show n ≤ n + n by omega) hB (show n ≤ 1000 by omega) (show n + n ≤ 1000 by omega) (K := K) (by omega)
  have h54 := Inverse_l54 (G := (red (wun g n) n n).g) (ps := ints (red (wun g n) n n).ps) (d := (red (wun g n) n n).d) (g := g) hn K n 0 K (by omega) (by omega)
  have z2 : mx (fun i c => (red (wun g n) n n).g i (n + c)) 0 n = [] := rfl
  rw [z2] at h54
  simp only [Int.natCast_zero] at h54
  have hle := rank_le_w (red_J (g := g) (h := n) n)
  simp only [F_matrix_Inverse, square_ok hn (K := K) (by omega), oB, Bool.not_true, cF0, h26, F_matrix_Inverse_j27, mx_len, hr, ints_len, wun_ps]
  by_cases h : rank g n n = n
  · simp only [dF (show ¬ ((rank g n n : Nat) : Int) < (n : Int) by omega), cF0, h54, oB, F_matrix_Inverse_j55, if_pos h]; rfl
  · simp only [dT (show ((rank g n n : Nat) : Int) < (n : Int) by unfold rank at h ⊢; omega), cT0, if_neg h]
theorem inv_bd {g : Nat → Nat → Rat} {n b : Nat} (hg : Bdx n n b g) (hb : 2 ≤ b) : Bdx n n (5 ^ n * b) (invM g n) := fun i c hi hc =>
  (red_ok (wun_bd hg hb) hb n (by omega)).bd i (n + c) hi (by omega)
/-- Equal to the turned one. -/
def symM (g : Nat → Nat → Rat) (n : Nat) : Prop := ∀ i, i < n → ∀ k, k < i → g i k = g k i
theorem Pos_l164 {g : Nat → Nat → Rat} {n b i : Nat} (hg : Bdx n n b g) (hb : b ≤ 1073741824) (hn : n ≤ 64) (hi : i < n) (K : Nat) : ∀ (t k f : Nat), k + t = i → t < f → ∃ o : LR Bool Unit, F_matrix_Positive_l164 K (mx g n n) (i : Int) (mp (g i) n) f (k : Int) = some o ∧ (o = .go () ∧ (∀ j, k ≤ j → j < i → g i j = g j i) ∨ o = .ret false ∧ ¬ symM g n)
  | 0, k, f, hk, hf => by
    obtain ⟨f', rfl, _⟩ := fuel hf
    have : k = i := by omega
    subst this
    exact ⟨.go (), by simp only [F_matrix_Positive_l164, dF (show ¬ (k : Int) < (k : Int) by omega), cF0], .inl ⟨rfl, fun j h1 h2 => absurd h2 (by omega)⟩⟩
  | t + 1, k, f, hk, hf => by
    obtain ⟨f', rfl, _⟩ := fuel hf
    have hkn : k < n := by omega
    by_cases he : g i k = g k i
    · obtain ⟨o, h1, h2⟩ := Pos_l164 hg hb hn hi K t (k + 1) f' (by omega) (by omega)
      refine ⟨o, ?_, ?_⟩
      · simp only [F_matrix_Positive_l164, dT (show (k : Int) < (i : Int) by omega), cT0, rdMp (f := g i) hkn, rdMx (g := g) (w := n) hkn, rdMp (f := g k) hi, oB, qsame_ok (hg i k hi hkn) (hg k i hkn hi) hb hb, decide_eq_true he, Bool.not_true, cF0, ckS (i := k) (by omega), h1]
      · rcases h2 with ⟨h2, h3⟩ | h2
        · exact .inl ⟨h2, fun j hj hji => by
            by_cases e : j = k
            · rw [e]; exact he
            · exact h3 j (by omega) hji⟩
        · exact .inr h2
    · exact ⟨.ret false, by simp only [F_matrix_Positive_l164, dT (show (k : Int) < (i : Int) by omega), cT0, rdMp (f := g i) hkn, rdMx (g := g) (w := n) hkn, rdMp (f := g k) hi, oB, qsame_ok (hg i k hi hkn) (hg k i hkn hi) hb hb, decide_eq_false he, Bool.not_false], .inr ⟨rfl, fun h => he (h i hi k (by omega))⟩⟩
/-- The pool: one empty row, then copies of the rows. -/
def pool0 (g : Nat → Nat → Rat) (n i : Nat) : List (List Rat) := ([] : List Rat) :: mp (fun i => mp (g i) n) i
theorem Pos_l49 {g : Nat → Nat → Rat} {n b : Nat} (hg : Bdx n n b g) (hb : b ≤ 1073741824) (hn : n ≤ 64) {K : Nat} (hK : n < K) : ∀ (t i k : Nat), i + t = n → t < k → (∀ i', i' < i → ∀ k, k < i' → g i' k = g k i') → ∃ o, F_matrix_Positive_l49 K (mx g n n) k (mp (fun j => if j < i then j + 1 else 0) n) (pool0 g n i) (i : Int) = some o ∧ (o = .go (mp (fun j => j + 1) n, pool0 g n n) ∧ symM g n ∨ o = .ret false ∧ ¬ symM g n)
  | 0, i, k, hi, hk, hs => by
    obtain ⟨k', rfl, _⟩ := fuel hk
    have : i = n := by omega
    subst this
    refine ⟨.go (mp (fun j => if j < i then j + 1 else 0) i, pool0 g i i), by simp only [F_matrix_Positive_l49, mx_len, dF (show ¬ (i : Int) < (i : Int) by omega), cF0], .inl ⟨?_, hs⟩⟩
    rw [mp_congr (f := fun j => if j < i then j + 1 else 0) (g := fun j => j + 1) fun j hj => if_pos hj]
  | t + 1, i, k, hi, hk, hs => by
    obtain ⟨k', rfl, _⟩ := fuel hk
    have hl : i < n := by omega
    obtain ⟨o, h1, h2⟩ := Pos_l164 hg hb hn hl K i 0 K (by omega) (by omega)
    simp only [Int.natCast_zero] at h1
    rcases h2 with ⟨rfl, h2⟩ | ⟨rfl, h2⟩
    · obtain ⟨o, h3, h4⟩ := Pos_l49 hg hb hn hK t (i + 1) k' (by omega) (by omega) (fun i' hi' k hk => by
        by_cases e : i' = i
        · subst e; exact h2 k (Nat.zero_le _) hk
        · exact hs i' (by omega) k hk)
      refine ⟨o, ?_, h4⟩
      have e2 : apL ([] : List Rat) (mp (g i) n) = some (mp (g i) n) := by rw [apL_ok (by rw [mp_len, List.length_nil]; omega), List.nil_append]
      have e5 : mp (upd (fun j => if j < i then j + 1 else 0) i (pool0 g n i).length) n = mp (fun j => if j < i + 1 then j + 1 else 0) n := mp_congr fun j hj => by
        by_cases e : j = i
        · subst e
          rw [upd_same, if_pos (by omega)]
          unfold pool0; rw [List.length_cons, mp_len]
        · rw [upd_ne e]
          by_cases h : j < i
          · rw [if_pos h, if_pos (by omega)]
          · rw [if_neg h, if_neg (by omega)]
      have e6 : pool0 g n i ++ [mp (g i) n] = pool0 g n (i + 1) := by unfold pool0; rw [mp_succ]; rfl
      simp only [F_matrix_Positive_l49, mx_len, dT (show (i : Int) < (n : Int) by omega), cT0, rdMx (g := g) (w := n) hl, oB, h1, F_matrix_Positive_j165, F_slices_Clone_Rat, e2, rdMp (f := fun j => if j < i then j + 1 else 0) hl, stMp (f := fun j => if j < i then j + 1 else 0) hl, ckS (i := i) (by omega), e5, e6, h3]
    · exact ⟨.ret false, by simp only [F_matrix_Positive_l49, mx_len, dT (show (i : Int) < (n : Int) by omega), cT0, rdMx (g := g) (w := n) hl, oB, h1], .inr ⟨rfl, h2⟩⟩
/-- The row i, of which the row k is taken, from column k to c. -/
theorem Pos_l134 {ι : Nat → Nat} {g : Nat → Nat → Rat} {n b i p : Nat} {v : Rat} (hg : ∀ c, c < n → Bd b (g i c)) (hp' : ∀ c, c < n → Bd b (g p c)) (hv : Bd (b + b) v) (hb : b * 5 ≤ 1073741824) (hn : n ≤ 1000) (hi : i < n) (hp : p < n) (hne : p ≠ i) (hv0 : v ≠ 0) (K : Nat) : ∀ (t c k : Nat) (pool : List (List Rat)), c + t = n → t < k → Rep ι pool (upd g i (mid (clr g i p v) (g i) c)) n n →
    ∃ pool', Rep ι pool' (upd g i (clr g i p v)) n n ∧ F_matrix_Positive_l134 K (ι p) (ι i) v k pool (c : Int) = some pool'
  | 0, c, k, pool, hc, hk, r => by
    have : c = n := by omega
    subst this
    obtain ⟨k', rfl, _⟩ := fuel hk
    refine ⟨pool, r.congr fun j x hj hx => ?_, ?_⟩
    · by_cases he : j = i
      · rw [he, upd_same, upd_same, mid_end hx]
      · rw [upd_ne he, upd_ne he]
    · simp only [F_matrix_Positive_l134, r.el i hi, mp_len, dF (show ¬ (c : Int) < (c : Int) by omega), cF0]
  | t + 1, c, k, pool, hc, hk, r => by
    obtain ⟨k', rfl, _⟩ := fuel hk
    have hcw : c < n := by omega
    have e1 := r.el i hi
    rw [upd_same] at e1
    have e2 := r.el p hp
    rw [upd_ne hne] at e2
    have r' := r.set hi (upd (mid (clr g i p v) (g i) c) c (clr g i p v c))
    rw [upd_upd, mid_next] at r'
    obtain ⟨pool', h1, h2⟩ := Pos_l134 hg hp' hv hb hn hi hp hne hv0 K t (c + 1) k' _ (by omega) (by omega) r'
    refine ⟨pool', h1, ?_⟩
    rw [← mid_next] at h2
    have e3 : v * g p c = v * g p c := rfl
    simp only [F_matrix_Positive_l134, e1, e2, mp_len, dT (show (c : Int) < (n : Int) by omega), cT0, qsgn_ok hv (by omega), nT (fun h => hv0 (sgn0.1 h)), rdMp (f := mid (clr g i p v) (g i) c) hcw, mid_at, rdMp (f := g p) hcw, qmul_ok hv (hp' c hcw) (by omega) (by omega), qsub_ok (hg c hcw) (hv.mul (hp' c hcw)) (by omega) (by omega), oB, stMp (f := mid (clr g i p v) (g i) c) hcw, ckS (i := c) (by omega)]
    exact h2
/-- What is left of the rows behind p when some are done. -/
def epr (g : Nat → Nat → Rat) (p j i c : Nat) : Rat := if p < i ∧ i < j then g i c - g i p / g p p * g p c else g i c
theorem Pos_l105 {ι : Nat → Nat} {g : Nat → Nat → Rat} {n b p : Nat} (hg : Bdx n n b g) (hb : b * 5 ≤ 1073741824) (hn : n ≤ 1000) (hp : p < n) (hz : ∀ i c, i < n → c < p → p ≤ i → g i c = 0) {x89 : List (List Rat)} (hx : x89.length = n - (p + 1)) {K : Nat} (hK : n < K) : ∀ (t j k : Nat) (pool : List (List Rat)), p + 1 + j + t = n → t < k → Rep ι pool (epr g p (p + 1 + j)) n n →
    ∃ pool', Rep ι pool' (est g p) n n ∧ F_matrix_Positive_l105 K (mp ι n) (p : Int) (ι p) ((p + 1 : Nat) : Int) x89 k pool (j : Int) = some pool'
  | 0, j, k, pool, hj, hk, r => by
    obtain ⟨k', rfl, _⟩ := fuel hk
    refine ⟨pool, r.congr fun i c hi hc => ?_, ?_⟩
    · unfold epr est
      by_cases h : p < i
      · rw [if_pos ⟨h, by omega⟩, if_pos h]
      · rw [if_neg (by omega), if_neg h]
    · simp only [F_matrix_Positive_l105, hx, dF (show ¬ (j : Int) < ((n - (p + 1) : Nat) : Int) by omega), cF0]
  | t + 1, j, k, pool, hj, hk, r => by
    obtain ⟨k', rfl, _⟩ := fuel hk
    have hin : p + 1 + j < n := by omega
    have hrd : rdL ((mp ι n).drop ((p + 1 : Nat) : Int).toNat) (j : Int) = some (ι (p + 1 + j)) := rdG (by
      rw [List.getElem?_drop, show ((p + 1 : Nat) : Int).toNat + j = p + 1 + j by omega, mp_get hin])
    have e1 := r.el (p + 1 + j) hin
    have e1' : epr g p (p + 1 + j) (p + 1 + j) = g (p + 1 + j) := by funext c; unfold epr; rw [if_neg (by omega)]
    have e2' : epr g p (p + 1 + j) p = g p := by funext c; unfold epr; rw [if_neg (by omega)]
    have e2 := r.el p hp
    rw [e1'] at e1
    rw [e2'] at e2
    have hv := (hg (p + 1 + j) p hin hp).div (hg p p hp hp)
    have next : ∀ pool', Rep ι pool' (upd (epr g p (p + 1 + j)) (p + 1 + j) (clr g (p + 1 + j) p (g (p + 1 + j) p / g p p))) n n → Rep ι pool' (epr g p (p + 1 + (j + 1))) n n := fun pool' r' => r'.congr fun i c hi hc => by
      by_cases he : i = p + 1 + j
      · subst he
        rw [upd_same]
        unfold clr epr
        rw [if_pos ⟨by omega, by omega⟩]
      · rw [upd_ne he]
        unfold epr
        by_cases h : p < i ∧ i < p + 1 + j
        · rw [if_pos h, if_pos ⟨h.1, by omega⟩]
        · rw [if_neg h, if_neg (by omega)]
    simp only [F_matrix_Positive_l105, hx, dT (show (j : Int) < ((n - (p + 1) : Nat) : Int) by omega), cT0, hrd, oB, e1, e2, rdMp (f := g (p + 1 + j)) hp, rdMp (f := g p) hp, qdiv_ok (hg (p + 1 + j) p hin hp) (hg p p hp hp) (by omega) (by omega)]
    by_cases hv0 : g (p + 1 + j) p / g p p = 0
    · -- nothing is taken
      obtain ⟨pool', h1, h2⟩ := Pos_l105 hg hb hn hp hz hx hK t (j + 1) k' pool (by omega) (by omega) (next pool (r.congr fun i c hi hc => by
        by_cases he : i = p + 1 + j
        · subst he
          rw [upd_same, e1']
          unfold clr
          rw [hv0]; grind
        · rw [upd_ne he]))
      refine ⟨pool', h1, ?_⟩
      obtain ⟨K', hK'⟩ : ∃ K', K = K' + 1 := ⟨K - 1, by omega⟩
      have e3 : F_matrix_Positive_l134 K (ι p) (ι (p + 1 + j)) (g (p + 1 + j) p / g p p) K pool (p : Int) = some pool := by
        rw [show F_matrix_Positive_l134 K (ι p) (ι (p + 1 + j)) (g (p + 1 + j) p / g p p) K = F_matrix_Positive_l134 K (ι p) (ι (p + 1 + j)) (g (p + 1 + j) p / g p p) (K' + 1) by rw [← hK']]
        simp only [F_matrix_Positive_l134, e1, mp_len, dT (show (p : Int) < (n : Int) by omega), cT0, qsgn_ok hv (by omega), nF (sgn0.2 hv0), cF0, oB]
      rw [e3]
      simp only [oB, F_matrix_Positive_j135, ckS (i := j) (by omega)]
      exact h2
    · obtain ⟨pool1, h3, h4⟩ := Pos_l134 (ι := ι) (g := epr g p (p + 1 + j)) (n := n) (b := b) (i := p + 1 + j) (p := p) (v := g (p + 1 + j) p / g p p) (fun c hc => by rw [e1']; exact hg _ c hin hc) (fun c hc => by rw [e2']; exact hg _ c hp hc) hv hb hn hin hp (by omega) hv0 K (n - p) p K pool (by omega) (by omega) (r.congr fun i c hi hc => by
        by_cases he : i = p + 1 + j
        · subst he
          rw [upd_same, e1']
          unfold mid
          split
          · rename_i hcp
            unfold clr
            rw [e1', e2', hz _ c hin hcp (by omega), hz p c hp hcp (by omega)]; grind
          · rfl
        · rw [upd_ne he])
      have e5 : clr (epr g p (p + 1 + j)) (p + 1 + j) p (g (p + 1 + j) p / g p p) = clr g (p + 1 + j) p (g (p + 1 + j) p / g p p) := by
        funext c
        unfold clr
        rw [e1', e2']
      rw [e5] at h3
      obtain ⟨pool', h1, h2⟩ := Pos_l105 hg hb hn hp hz hx hK t (j + 1) k' pool1 (by omega) (by omega) (next pool1 h3)
      refine ⟨pool', h1, ?_⟩
      simp only [h4, oB, F_matrix_Positive_j135, ckS (i := j) (by omega)]
      exact h2
theorem est_bd {g : Nat → Nat → Rat} {n b k : Nat} (hg : Bdx n n b g) (hb : 1 ≤ b) (hk : k < n) : Bdx n n (5 * b) (est g k) := fun i c hi hc => by
  unfold est
  split
  · exact ((hg i c hi hc).sub (((hg i k hi hk).div (hg k k hk hk)).mul (hg k c hk hc))).mono (by omega)
  · exact (hg i c hi hc).mono (by omega)
theorem ela_bd {g : Nat → Nat → Rat} {n b : Nat} (hg : Bdx n n b g) (hb : 2 ≤ b) : ∀ k, k ≤ n → Bdx n n (5 ^ k * b) (ela g k)
  | 0, _ => by simpa [ela] using hg
  | k + 1, hk => by
    have h5 : 5 ^ (k + 1) * b = 5 * (5 ^ k * b) := by rw [Nat.pow_succ, Nat.mul_comm (5 ^ k) 5, Nat.mul_assoc]
    rw [h5]
    exact est_bd (ela_bd hg hb k (by omega)) (by have := pow_pos5 k b hb; omega) (by omega)
theorem num_pos' {a : Rat} : 0 < a.num ↔ 0 < a := by
  have h1 := Rat.num_nonneg (q := a)
  have h2 := Rat.num_eq_zero (q := a)
  constructor
  · intro h
    have h3 : 0 ≤ a := h1.1 (by omega)
    have h4 : a ≠ 0 := fun e => by have := h2.2 e; omega
    grind
  · intro h
    have h3 : 0 ≤ a.num := h1.2 (by grind)
    have h4 : a.num ≠ 0 := fun e => by have := h2.1 e; grind
    omega
theorem sgn_pos {a : Rat} : a.num.sign ≤ 0 ↔ ¬ 0 < a := by
  rw [← num_pos']
  constructor
  · intro h h1
    have := Int.sign_eq_one_of_pos h1
    omega
  · intro h
    rcases Int.lt_trichotomy a.num 0 with h1 | h1 | h1
    · rw [Int.sign_eq_neg_one_of_neg h1]; omega
    · rw [h1]; decide
    · exact absurd h1 h
theorem Pos_l77 {ι : Nat → Nat} {g : Nat → Nat → Rat} {n b : Nat} (hg : Bdx n n b g) (hb : 2 ≤ b) (hB : 5 ^ n * b ≤ 200000000) (hn : n ≤ 64) {K : Nat} (hK : n < K) : ∀ (t p k : Nat) (pool : List (List Rat)), p + t = n → t < k → (∀ j, j < p → 0 < ela g j j j) → Rep ι pool (ela g p) n n →
    ∃ o : LR Bool Unit, F_matrix_Positive_l77 K (mp ι n) k (mp ι n) pool (p : Int) = some o ∧ (o = .go () ∧ posE g n ∨ o = .ret false ∧ ¬ posE g n)
  | 0, p, k, pool, hp, hk, hpos, r => by
    obtain ⟨k', rfl, _⟩ := fuel hk
    have : p = n := by omega
    subst this
    exact ⟨.go (), by simp only [F_matrix_Positive_l77, mp_len, dF (show ¬ (p : Int) < (p : Int) by omega), cF0], .inl ⟨rfl, hpos⟩⟩
  | t + 1, p, k, pool, hp, hk, hpos, r => by
    obtain ⟨k', rfl, _⟩ := fuel hk
    have hl : p < n := by omega
    have hgb := ela_bd hg hb p (by omega)
    have h5 : 5 ^ p * b ≤ 200000000 := Nat.le_trans (Nat.mul_le_mul_right b (Nat.pow_le_pow_right (by omega) (show p ≤ n by omega))) hB
    simp only [F_matrix_Positive_l77, mp_len, dT (show (p : Int) < (n : Int) by omega), cT0, rdMp (f := ι) hl, oB, r.el p hl, rdMp (f := ela g p p) hl, qsgn_ok (hgb p p hl hl) (by omega)]
    by_cases hp0 : 0 < ela g p p p
    · have hsl := slMp (f := fun i => mp (ela g p i) n) (n := n) (i := p + 1) (by omega)
      have hlen : (mp (fun j => mp (ela g p (p + 1 + j)) n) (n - (p + 1))).length = n - (p + 1) := mp_len _ _
      obtain ⟨pool', h1, h2⟩ := Pos_l105 (ι := ι) (g := ela g p) (n := n) (b := 5 ^ p * b) (p := p) hgb (by omega) (by omega) hl (fun i c hi hc hpi => ela_zero p (fun j hj => by have := hpos j hj; grind) i c hc (by omega)) hlen hK (n - (p + 1)) 0 K pool (by omega) (by omega) (r.congr fun i c hi hc => by
        unfold epr
        rw [if_neg (by omega)])
      obtain ⟨o, h3, h4⟩ := Pos_l77 hg hb hB hn hK t (p + 1) k' pool' (by omega) (by omega) (fun j hj => by
        by_cases e : j = p
        · subst e; exact hp0
        · exact hpos j (by omega)) h1
      refine ⟨o, ?_, h4⟩
      simp only [Int.natCast_zero] at h2
      have hsl' : slL (mx (ela g p) n n) ((p + 1 : Nat) : Int) (n : Int) = some (mp (fun j => mp (ela g p (p + 1 + j)) n) (n - (p + 1))) := hsl
      simp only [dF (fun h => sgn_pos.1 h hp0), cF0, ckS (i := p) (by omega), oB, r.sel, mx_len, hsl', h2, F_matrix_Positive_j106]
      exact h3
    · exact ⟨.ret false, by simp only [dT (sgn_pos.2 hp0), cT0], .inr ⟨rfl, fun h => hp0 (h p hl)⟩⟩
theorem Positive_ok {g : Nat → Nat → Rat} {n b : Nat} (hg : Bdx n n b g) (hb : 2 ≤ b) (hB : 5 ^ n * b ≤ 200000000) (hn : n ≤ 64) {K : Nat} (hK : n + 1 < K) : ∃ o, F_matrix_Positive K (mx g n n) = some o ∧ (o = true ↔ symM g n ∧ posE g n) := by
  have h1 : b ≤ 5 ^ n * b := Nat.le_mul_of_pos_left b (Nat.pow_pos (by omega))
  obtain ⟨o1, a1, a2⟩ := Pos_l49 hg (by omega) hn (K := K) (by omega) n 0 K (by omega) (by omega) (fun i' hi' => absurd hi' (by omega))
  simp only [Int.natCast_zero] at a1
  have e0 : mp (fun j => if j < 0 then j + 1 else 0) n = mp (fun _ => (0 : Nat)) n := mp_congr fun j _ => if_neg (by omega)
  have e1 : pool0 g n 0 = [[]] := rfl
  rw [e0, e1] at a1
  simp only [F_matrix_Positive, square_ok hn (K := K) (by omega), oB, Bool.not_true, cF0, mx_len, mkMp (z := (0 : Nat)) (n := n) (by omega), a1]
  rcases a2 with ⟨rfl, hs⟩ | ⟨rfl, hs⟩
  · have r0 : Rep (fun j => j + 1) (pool0 g n n) g n n := ⟨fun i j _ _ e => by omega, fun i hi => by unfold pool0; rw [List.length_cons, mp_len]; omega, fun i hi => by
      unfold pool0
      rw [List.getD_eq_getElem?_getD, List.getElem?_cons_succ, mp_get hi]; rfl⟩
    obtain ⟨o2, b1, b2⟩ := Pos_l77 hg hb hB hn (K := K) (by omega) n 0 K (pool0 g n n) (by omega) (by omega) (fun j hj => absurd hj (by omega)) r0
    simp only [Int.natCast_zero] at b1
    simp only [F_matrix_Positive_j50, b1, oB]
    rcases b2 with ⟨rfl, hp⟩ | ⟨rfl, hp⟩
    · exact ⟨true, by simp only [F_matrix_Positive_j78], ⟨fun _ => ⟨hs, hp⟩, fun _ => rfl⟩⟩
    · exact ⟨false, rfl, ⟨fun h => (by cases h), fun h => absurd h.2 hp⟩⟩
  · exact ⟨false, rfl, ⟨fun h => (by cases h), fun h => absurd h.1 hs⟩⟩
end Go.Proofs.YtkjnngaceacmdaaGreat
