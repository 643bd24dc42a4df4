/- The law MatrixInverts, without a program in sight. -/
import Derived.Test.YtkjnngaceacmdaaGreatMX4
set_option linter.unusedVariables false
namespace Go.Proofs.YtkjnngaceacmdaaGreat

theorem lessS_l34 {G : Nat → Nat → Rat} {m w b b' i0 i1 : Nat} {d : Rat} (h0 : i0 < m) (h1 : i1 < m) (hf : ∀ c, c < w → Bd b (G i0 c)) (he : ∀ c, c < w → Bd b' (G i1 c)) (hd : Bd 8 d) (hb : b ≤ 1000000) (hb' : b' ≤ 1000000) (hw : w ≤ 1000) (K : Nat) : ∀ (t i k : Nat), i + t = w → t < k → F_gantryref09_less_s1_l34 K i0 i1 d (mx G m w) k (mp (fun c => G i0 c - d * G i1 c) i) (i : Int) = some (mp (fun c => G i0 c - d * G i1 c) w)
  | 0, i, k, hi, hk => by
    obtain ⟨k', rfl, _⟩ := fuel hk
    have : i = w := by omega
    subst this
    have e0 : (mx G m i).getD i0 [] = mp (G i0) i := by unfold mx; rw [List.getD_eq_getElem?_getD, mp_get h0]; rfl
    simp only [F_gantryref09_less_s1_l34, e0, mp_len, dF (show ¬ (i : Int) < (i : Int) by omega), cF0]
  | t + 1, i, k, hi, hk => by
    obtain ⟨k', rfl, _⟩ := fuel hk
    have hl : i < w := by omega
    have e0 : (mx G m w).getD i0 [] = mp (G i0) w := by unfold mx; rw [List.getD_eq_getElem?_getD, mp_get h0]; rfl
    have e1 : (mx G m w).getD i1 [] = mp (G i1) w := by unfold mx; rw [List.getD_eq_getElem?_getD, mp_get h1]; rfl
    simp only [F_gantryref09_less_s1_l34, e0, e1, mp_len, dT (show (i : Int) < (w : Int) by omega), cT0, rdMp (f := G i0) hl, rdMp (f := G i1) hl, qmul_ok hd (he i hl) (by omega) (by omega), qsub_ok (hf i hl) (hd.mul (he i hl)) (by omega) (by omega), oB, apM (g := fun c => G i0 c - d * G i1 c) (i := i) (by omega), ckS (i := i) (by omega)]
    exact lessS_l34 h0 h1 hf he hd hb hb' hw K t (i + 1) k' (by omega) (by omega)
theorem lessS_ok {G : Nat → Nat → Rat} {m w b b' i0 i1 : Nat} {d : Rat} (h0 : i0 < m) (h1 : i1 < m) (hf : ∀ c, c < w → Bd b (G i0 c)) (he : ∀ c, c < w → Bd b' (G i1 c)) (hd : Bd 8 d) (hb : b ≤ 1000000) (hb' : b' ≤ 1000000) (hw : w ≤ 1000) {K : Nat} (hK : w < K) : F_gantryref09_less_s1 K i0 i1 d (mx G m w) = some (mp (fun c => G i0 c - d * G i1 c) w) := by
  have := lessS_l34 h0 h1 hf he hd hb hb' hw K w 0 K (by omega) hK
  simp only [Int.natCast_zero, mp_zero] at this
  simp only [F_gantryref09_less_s1, this, oB, F_gantryref09_less_s1_j35]
theorem mx_snoc {G : Nat → Nat → Rat} {i w : Nat} {f : Nat → Rat} : mx G i w ++ [mp f w] = mx (upd G i f) (i + 1) w := by
  unfold mx
  rw [mp_succ, upd_same, mp_congr (f := fun j => mp (upd G i f j) w) (g := fun j => mp (G j) w) fun j hj => by rw [upd_ne (by omega)]]
theorem MatS_l45 {l : List Int} (hl : I64s l) {h w : Nat} (hh : h ≤ 5) (hw : w ≤ 5) : ∀ (t i : Nat) (G : Nat → Nat → Rat) (ι : Nat → Nat), i + t = h → (∀ j, j < i → ∀ c, c < w → Bd (9 + 18 * j) (G j c)) → (∀ j, j < i → ι j ≤ j) →
    ∃ (G' : Nat → Nat → Rat) (ι' : Nat → Nat), (∀ j, j < h → ∀ c, c < w → Bd (9 + 18 * j) (G' j c)) ∧ (∀ j, j < h → ι' j ≤ j) ∧ ∀ K k, w < K → t < k → F_gantryref09_Matrix_s1_l45 K l 0 (h : Int) (w : Int) k (mp ι i) (mx G i w) (i : Int) = some (mp ι' h, mx G' h w)
  | 0, i, G, ι, hi, hb, hι => by
    have : i = h := by omega
    subst this
    exact ⟨G, ι, hb, hι, fun K k hK hk => by
      obtain ⟨k', rfl, _⟩ := fuel hk
      simp only [F_gantryref09_Matrix_s1_l45, dF (show ¬ (i : Int) < (i : Int) by omega), cF0]⟩
  | t + 1, i, G, ι, hi, hb, hι => by
    have hiw : i * w ≤ 25 := Nat.le_trans (Nat.mul_le_mul (show i ≤ 5 by omega) hw) (by omega)
    have hhw : h * w ≤ 25 := Nat.le_trans (Nat.mul_le_mul hh hw) (by omega)
    have e1 : chk ((i : Int) * (w : Int)) = some ((i * w : Nat) : Int) := ckN (m := 0) (by rw [Int.natCast_mul]) (by omega)
    have e2 : chk ((0 : Int) + ((i * w : Nat) : Int)) = some ((i * w : Nat) : Int) := ckN (m := 0) (by omega) (by omega)
    have e3 : chk ((h : Int) * (w : Int)) = some ((h * w : Nat) : Int) := ckN (m := 0) (by rw [Int.natCast_mul]) (by omega)
    have e4 : chk ((0 : Int) + ((h * w : Nat) : Int)) = some ((h * w : Nat) : Int) := ckN (m := 0) (by omega) (by omega)
    have e5 : chk (((h * w : Nat) : Int) + (i : Int)) = some (((h * w : Nat) : Int) + (i : Int)) := ckO (by omega)
    obtain ⟨f, f1, f2⟩ := Row_ok hl (at0 := ((i * w : Nat) : Int)) ⟨by omega, by omega⟩ (n := w) (by omega)
    obtain ⟨v, v1, v2, v3⟩ := At_ok hl (((h * w : Nat) : Int) + (i : Int)) (m := 6) (by omega)
    -- the new row, and the place that the list takes
    have go : ∀ (f' : Nat → Rat) (x : Nat), (∀ c, c < w → Bd (9 + 18 * i) (f' c)) → x ≤ i → ∃ (G' : Nat → Nat → Rat) (ι' : Nat → Nat), (∀ j, j < h → ∀ c, c < w → Bd (9 + 18 * j) (G' j c)) ∧ (∀ j, j < h → ι' j ≤ j) ∧ ∀ K k, w < K → t < k → F_gantryref09_Matrix_s1_l45 K l 0 (h : Int) (w : Int) k (mp ι i ++ [x]) (mx G i w ++ [mp f' w]) ((i + 1 : Nat) : Int) = some (mp ι' h, mx G' h w) := by
      intro f' x hf' hx
      obtain ⟨G', ι', g1, g2, g3⟩ := MatS_l45 hl hh hw t (i + 1) (upd G i f') (upd ι i x) (by omega) (fun j hj c hc => by
        by_cases he : j = i
        · rw [he, upd_same]; exact hf' c hc
        · rw [upd_ne he]; exact hb j (by omega) c hc) (fun j hj => by
        by_cases he : j = i
        · rw [he, upd_same]; exact hx
        · rw [upd_ne he]; exact hι j (by omega))
      refine ⟨G', ι', g1, g2, fun K k hK hk => ?_⟩
      have e : mp ι i ++ [x] = mp (upd ι i x) (i + 1) := by
        rw [mp_succ, upd_same, mp_congr (f := upd ι i x) (g := ι) fun j hj => upd_ne (by omega)]
      rw [e, mx_snoc]; exact g3 K k hK hk
    have ap : ∀ x : Nat, apL (mp ι i) [x] = some (mp ι i ++ [x]) := fun x => apS (by rw [mp_len]; omega)
    have hlen : (mx G i w).length = i := mx_len
    by_cases hi0 : 0 < i
    · have e6 : chk ((i : Int) - 1) = some ((i - 1 : Nat) : Int) := ckN (m := 0) (by omega) (by omega)
      by_cases hk1 : v = 1
      · obtain ⟨G', ι', g1, g2, g3⟩ := go f (ι (i - 1)) (fun c hc => (f1 c hc).mono (by omega)) (Nat.le_trans (hι (i - 1) (by omega)) (by omega))
        refine ⟨G', ι', g1, g2, fun K k hK hk => ?_⟩
        obtain ⟨k', rfl, _⟩ := fuel hk
        simp only [F_gantryref09_Matrix_s1_l45, dT (show (i : Int) < (h : Int) by omega), cT0, e1, e2, f2 K hK, e3, e4, e5, v1, oB, dT (show (0 : Int) < (i : Int) by omega), qF (show ¬ v = 0 by omega), cF0, F_gantryref09_Matrix_s1_j83, qT hk1, e6, rdMp (f := ι) (show i - 1 < i by omega), ap, ckS (i := i) (by omega)]
        exact g3 K k' hK (by omega)
      · by_cases hk0 : v = 0
        · obtain ⟨u, u1, u2, u3⟩ := At_ok hl ((0 : Int) + (i : Int)) (m := 1099511627776) (by omega)
          obtain ⟨q, q1, q2⟩ := value_ok (n := u) ⟨by omega, by omega⟩
          have e7 : chk ((0 : Int) + (i : Int)) = some ((0 : Int) + (i : Int)) := ckO (by omega)
          have r0 := rdMp (f := ι) (show 0 < i by omega)
          simp only [Int.natCast_zero] at r0
          have i0 : ι 0 = 0 := by have := hι 0 hi0; omega
          have i1 : ι (i - 1) ≤ i - 1 := hι (i - 1) (by omega)
          obtain ⟨G', ι', g1, g2, g3⟩ := go (fun c => G (ι 0) c - q * G (ι (i - 1)) c) i (fun c hc => ((hb (ι 0) (by omega) c hc).sub (q2.mul (hb (ι (i - 1)) (by omega) c hc))).mono (by omega)) (Nat.le_refl _)
          refine ⟨G', ι', g1, g2, fun K k hK hk => ?_⟩
          obtain ⟨k', rfl, _⟩ := fuel hk
          simp only [F_gantryref09_Matrix_s1_l45, dT (show (i : Int) < (h : Int) by omega), cT0, e1, e2, f2 K hK, e3, e4, e5, v1, oB, dT (show (0 : Int) < (i : Int) by omega), qT hk0, r0, e6, rdMp (f := ι) (show i - 1 < i by omega), e7, u1, q1, lessS_ok (G := G) (m := i) (w := w) (i0 := ι 0) (i1 := ι (i - 1)) (b := 100) (b' := 100) (by omega) (by omega) (fun c hc => (hb (ι 0) (by omega) c hc).mono (by omega)) (fun c hc => (hb (ι (i - 1)) (by omega) c hc).mono (by omega)) q2 (by omega) (by omega) (show w ≤ 1000 by omega) hK, F_gantryref09_Matrix_s1_j83, qF hk1, cF0, hlen, ap, ckS (i := i) (by omega)]
          exact g3 K k' hK (by omega)
        · obtain ⟨G', ι', g1, g2, g3⟩ := go f i (fun c hc => (f1 c hc).mono (by omega)) (Nat.le_refl _)
          refine ⟨G', ι', g1, g2, fun K k hK hk => ?_⟩
          obtain ⟨k', rfl, _⟩ := fuel hk
          simp only [F_gantryref09_Matrix_s1_l45, dT (show (i : Int) < (h : Int) by omega), cT0, e1, e2, f2 K hK, e3, e4, e5, v1, oB, dT (show (0 : Int) < (i : Int) by omega), qF hk0, cF0, F_gantryref09_Matrix_s1_j83, qF hk1, hlen, ap, ckS (i := i) (by omega)]
          exact g3 K k' hK (by omega)
    · obtain ⟨G', ι', g1, g2, g3⟩ := go f i (fun c hc => (f1 c hc).mono (by omega)) (Nat.le_refl _)
      refine ⟨G', ι', g1, g2, fun K k hK hk => ?_⟩
      obtain ⟨k', rfl, _⟩ := fuel hk
      simp only [F_gantryref09_Matrix_s1_l45, dT (show (i : Int) < (h : Int) by omega), cT0, e1, e2, f2 K hK, e3, e4, e5, v1, oB, dF (show ¬ (0 : Int) < (i : Int) by omega), cF0, F_gantryref09_Matrix_s1_j83, hlen, ap, ckS (i := i) (by omega)]
      exact g3 K k' hK (by omega)
theorem MatS_ok {l : List Int} (hl : I64s l) {h w : Nat} (hh : h ≤ 5) (hw : w ≤ 5) : ∃ (G : Nat → Nat → Rat) (ι : Nat → Nat), Bdx h w 100 G ∧ (∀ j, j < h → ι j < h) ∧ ∀ K, 5 < K → F_gantryref09_Matrix_s1 K l 0 (h : Int) (w : Int) = some (mp ι h, mx G h w) := by
  obtain ⟨G, ι, g1, g2, g3⟩ := MatS_l45 hl hh hw h 0 (fun _ _ => 0) (fun _ => 0) (by omega) (fun j hj => absurd hj (by omega)) (fun j hj => absurd hj (by omega))
  refine ⟨G, ι, fun i c hi hc => (g1 i hi c hc).mono (by omega), fun j hj => by have := g2 j hj; omega, fun K hK => ?_⟩
  have := g3 K K (by omega) (by omega)
  have e : mx (fun _ _ => (0 : Rat)) 0 w = [] := rfl
  rw [e, mp_zero] at this
  simp only [Int.natCast_zero] at this
  simp only [F_gantryref09_Matrix_s1, this, oB, F_gantryref09_Matrix_s1_j46]
theorem selS {G : Nat → Nat → Rat} {ι : Nat → Nat} {h w : Nat} (hι : ∀ j, j < h → ι j < h) : selL (mx G h w) (mp ι h) = mx (fun i => G (ι i)) h w := by
  unfold selL mx
  apply List.ext_getElem?
  intro j
  by_cases hj : j < h
  · rw [List.getElem?_map, mp_get hj, mp_get hj]
    show some ((mp (fun i => mp (G i) w) h).getD (ι j) []) = _
    rw [List.getD_eq_getElem?_getD, mp_get (hι j hj)]; rfl
  · rw [List.getElem?_map, List.getElem?_eq_none (by simp [mp]; omega), List.getElem?_eq_none (by simp [mp]; omega)]; rfl
theorem getS {G : Nat → Nat → Rat} {h w i : Nat} (hi : i < h) : (mx G h w).getD i [] = mp (G i) w := by unfold mx; rw [List.getD_eq_getElem?_getD, mp_get hi]; rfl
theorem setS {G : Nat → Nat → Rat} {h w i : Nat} {f : Nat → Rat} : (mx G h w).set i (mp f w) = mx (upd G i f) h w := by
  unfold mx
  rw [mp_set, mx_set]; rfl
theorem Inv_l154 {ι : Nat → Nat} {n b i : Nat} (hι : ∀ j, j < n → ι j < n) (hn : n ≤ 5) (hi : i < n) : ∀ (t c : Nat) (G : Nat → Nat → Rat), c + t = i → Bdx n n b G → ∃ G', Bdx n n b G' ∧ ∀ K k, t < k → F_gantrylaw09_MatrixInverts_l154 K (i : Int) k (mp ι n) (mx G n n) (c : Int) = some (mp ι n, mx G' n n)
  | 0, c, G, hc, hG => by
    have : c = i := by omega
    subst this
    exact ⟨G, hG, fun K k hk => by
      obtain ⟨k', rfl, _⟩ := fuel hk
      simp only [F_gantrylaw09_MatrixInverts_l154, dF (show ¬ (c : Int) < (c : Int) by omega), cF0]⟩
  | t + 1, c, G, hc, hG => by
    have hcn : c < n := by omega
    obtain ⟨G', g1, g2⟩ := Inv_l154 hι hn hi t (c + 1) (upd G (ι i) (upd (G (ι i)) c (G (ι c) i))) (by omega) (fun r x hr hx => by
      by_cases h1 : r = ι i
      · subst h1
        rw [upd_same]
        by_cases h2 : x = c
        · subst h2; rw [upd_same]; exact hG _ _ (hι x hcn) hi
        · rw [upd_ne h2]; exact hG _ _ hr hx
      · rw [upd_ne h1]; exact hG r x hr hx)
    refine ⟨G', g1, fun K k hk => ?_⟩
    obtain ⟨k', rfl, _⟩ := fuel hk
    simp only [F_gantrylaw09_MatrixInverts_l154, dT (show (c : Int) < (i : Int) by omega), cT0, rdMp (f := ι) hi, rdMp (f := ι) hcn, oB, getS (G := G) (w := n) (hι c hcn), getS (G := G) (w := n) (hι i hi), rdMp (f := G (ι c)) hi, rdMp (f := G (ι i)) hcn, stMp (f := G (ι i)) hcn, ckS (i := c) (by omega), setS]
    exact g2 K k' (by omega)
theorem Bd4 : Bd 3 4 := by constructor <;> decide
theorem four_is : ((4 : Int) : Rat) / ((1 : Int) : Rat) = 4 := by decide +kernel
theorem qof41 : qof 4 1 = some 4 := by rw [qof_ok (by omega) (by omega), four_is]
theorem Inv_l113 {ι : Nat → Nat} {n : Nat} {how : Int} {w1 : Int} (hι : ∀ j, j < n → ι j < n) (hn : n ≤ 5) : ∀ (t i : Nat) (G : Nat → Nat → Rat), i + t = n → Bdx n n (100 + 4 * i) G → ∃ G', Bdx n n (100 + 4 * n) G' ∧ ∀ K k, n < K → t < k → F_gantrylaw09_MatrixInverts_l113 K how ((n : Int), w1) k (mp ι n) (mx G n n) (i : Int) = some (mp ι n, mx G' n n)
  | 0, i, G, hi, hG => by
    have : i = n := by omega
    subst this
    exact ⟨G, hG, fun K k hK hk => by
      obtain ⟨k', rfl, _⟩ := fuel hk
      simp only [F_gantrylaw09_MatrixInverts_l113, dF (show ¬ (i : Int) < (i : Int) by omega), cF0]⟩
  | t + 1, i, G, hi, hG => by
    have hl : i < n := by omega
    obtain ⟨G1, a1, a2⟩ := Inv_l154 hι hn hl i 0 G (by omega) hG
    simp only [Int.natCast_zero] at a2
    obtain ⟨v, v1⟩ := chr_rng (x := how) (y := 4) (by omega)
    by_cases h3 : v = 3
    · have hx := a1 (ι i) i (hι i hl) hl
      obtain ⟨G', g1, g2⟩ := Inv_l113 (how := how) (w1 := w1) hι hn t (i + 1) (upd G1 (ι i) (upd (G1 (ι i)) i (G1 (ι i) i + 4))) (by omega) (fun r x hr hx' => by
        by_cases h1 : r = ι i
        · subst h1
          rw [upd_same]
          by_cases h2 : x = i
          · subst h2; rw [upd_same]; exact (hx.add Bd4).mono (by omega)
          · rw [upd_ne h2]; exact (a1 _ _ hr hx').mono (by omega)
        · rw [upd_ne h1]; exact (a1 r x hr hx').mono (by omega))
      refine ⟨G', g1, fun K k hK hk => ?_⟩
      obtain ⟨k', rfl, _⟩ := fuel hk
      simp only [F_gantrylaw09_MatrixInverts_l113, dT (show (i : Int) < (n : Int) by omega), cT0, a2 K K (by omega), oB, F_gantrylaw09_MatrixInverts_j155, v1, qT h3, rdMp (f := ι) hl, getS (G := G1) (w := n) (hι i hl), rdMp (f := G1 (ι i)) hl, qof41, qadd_ok hx Bd4 (by omega) (by omega), stMp (f := G1 (ι i)) hl, ckS (i := i) (by omega), setS]
      exact g2 K k' hK (by omega)
    · obtain ⟨G', g1, g2⟩ := Inv_l113 (how := how) (w1 := w1) hι hn t (i + 1) G1 (by omega) (a1.mono (by omega))
      refine ⟨G', g1, fun K k hK hk => ?_⟩
      obtain ⟨k', rfl, _⟩ := fuel hk
      simp only [F_gantrylaw09_MatrixInverts_l113, dT (show (i : Int) < (n : Int) by omega), cT0, a2 K K (by omega), oB, F_gantrylaw09_MatrixInverts_j155, v1, qF h3, cF0, ckS (i := i) (by omega)]
      exact g2 K k' hK (by omega)
theorem joinU_l23 {g : Nat → Nat → Rat} {n : Nat} (hn : n ≤ 64) (K : Nat) : ∀ (t i k : Nat), i + t = n → t < k → F_gantryref09_joined_l23 K (mx g n n) (mx unitM n n) k (mx (wun g n) i (n + n)) (i : Int) = some (mx (wun g n) n (n + n))
  | 0, i, k, hi, hk => by
    obtain ⟨k', rfl, _⟩ := fuel hk
    have : i = n := by omega
    subst this
    simp only [F_gantryref09_joined_l23, mx_len, dF (show ¬ (i : Int) < (i : Int) by omega), cF0]
  | t + 1, i, k, hi, hk => by
    obtain ⟨k', rfl, _⟩ := fuel hk
    have hl : i < n := by omega
    have a1 : apL ([] : List Rat) (mp (g i) n) = some (mp (g i) n) := by rw [apL_ok (by rw [mp_len, List.length_nil]; omega), List.nil_append]
    have a2 : apL (mp (g i) n) (mp (unitM i) n) = some (mp (wun g n i) (n + n)) := by rw [apL_ok (by rw [mp_len, mp_len]; omega), wun_row]
    have e4 : apL (mx (wun g n) i (n + n)) [mp (wun g n i) (n + n)] = some (mx (wun g n) (i + 1) (n + n)) := apM (g := fun i => mp (wun g n i) (n + n)) (by omega)
    simp only [F_gantryref09_joined_l23, mx_len, dT (show (i : Int) < (n : Int) by omega), cT0, rdMx (g := g) (w := n) hl, rdMx (g := unitM) (w := n) hl, oB, a1, a2, e4, ckS (i := i) (by omega)]
    exact joinU_l23 hn K t (i + 1) k' (by omega) (by omega)
theorem rInv_l30 {G : Nat → Nat → Rat} {ps : List Int} {g : Nat → Nat → Rat} {n : Nat} (hn : n ≤ 64) (K : Nat) : ∀ (t i k : Nat), i + t = n → t < k → F_gantryref09_Inverse_l30 K (mx g n n) (mx G n (n + n), ps) k (mx (fun i c => G i (n + c)) i n) (i : Int) = some (mx (fun i c => G i (n + c)) n n)
  | 0, i, k, hi, hk => by
    obtain ⟨k', rfl, _⟩ := fuel hk
    have : i = n := by omega
    subst this
    simp only [F_gantryref09_Inverse_l30, mx_len, dF (show ¬ (i : Int) < (i : Int) by omega), cF0]
  | t + 1, i, k, hi, hk => by
    obtain ⟨k', rfl, _⟩ := fuel hk
    have hl : i < n := by omega
    have e3 := slMp (f := G i) (n := n + n) (i := n) (by omega)
    rw [show n + n - n = n by omega] at e3
    have e4 : apL (mx (fun i c => G i (n + c)) i n) [mp (fun c => G i (n + c)) n] = some (mx (fun i c => G i (n + c)) (i + 1) n) := apM (g := fun i => mp (fun c => G i (n + c)) n) (by omega)
    simp only [F_gantryref09_Inverse_l30, mx_len, dT (show (i : Int) < (n : Int) by omega), cT0, rdMx (g := G) (w := n + n) hl, oB, mp_len, e3, e4, ckS (i := i) (by omega)]
    exact rInv_l30 hn K t (i + 1) k' (by omega) (by omega)
theorem rInverse_ok {g : Nat → Nat → Rat} {n b : Nat} (hg : Bdx n n b g) (hb : 2 ≤ b) (hB : 5 ^ n * b ≤ 200000000) (hn : n ≤ 64) {K : Nat} (hK : 3 + n + n + n < K) : F_gantryref09_Inverse K (mx g n n) = some (if rank g n n = n then (mx (invM g n) n n, true) else ([], false)) := by
  have h23 := joinU_l23 (g := g) hn K n 0 K (by omega) (by omega)
  have z : mx (wun g n) 0 (n + n) = [] := rfl
  rw [z] at h23
  simp only [Int.natCast_zero] at h23
  have hr := Reduced_ok (wun_bd hg hb) hb (show n ≤ n + n by omega) hB (show n ≤ 1000 by omega) (show n + n ≤ 1000 by omega) (K := K) (by omega)
  have h30 := rInv_l30 (G := (red (wun g n) n n).g) (ps := ints (red (wun g n) n n).ps) (g := g) hn K n 0 K (by omega) (by omega)
  have z2 : mx (fun i c => (red (wun g n) n n).g i (n + c)) 0 n = [] := rfl
  rw [z2] at h30
  simp only [Int.natCast_zero] at h30
  have hle := rank_le_w (red_J (g := g) (h := n) n)
  simp only [F_gantryref09_Inverse, mx_len, Unit_ok (show n ≤ 1000 by omega) (K := K) (by omega), oB, F_gantryref09_joined, h23, F_gantryref09_joined_j24, hr, ints_len, wun_ps]
  by_cases h : rank g n n = n
  · simp only [dF (show ¬ ((rank g n n : Nat) : Int) < (n : Int) by omega), cF0, h30, oB, F_gantryref09_Inverse_j31, if_pos h]; rfl
  · simp only [dT (show ((rank g n n : Nat) : Int) < (n : Int) by unfold rank at h ⊢; omega), cT0, if_neg h]
/-- Two rows, equal or not. -/
theorem SameRow_g {f e : Nat → Rat} {n b : Nat} (hf : ∀ c, c < n → Bd b (f c)) (he : ∀ c, c < n → Bd b (e c)) (hb : b ≤ 1073741824) (hn : n ≤ 1000) (K : Nat) : ∀ (t i k : Nat), i + t = n → t < k → ∃ o : LR Bool Unit, F_gantryref09_SameRow_l4 K (mp f n) (mp e n) k (i : Int) = some o ∧ (o = .go () ∧ (∀ c, i ≤ c → c < n → f c = e c) ∨ o = .ret false ∧ ¬ ∀ c, c < n → f c = e c)
  | 0, i, k, hi, hk => by
    obtain ⟨k', rfl, _⟩ := fuel hk
    have : i = n := by omega
    subst this
    exact ⟨.go (), by simp only [F_gantryref09_SameRow_l4, mp_len, dF (show ¬ (i : Int) < (i : Int) by omega), cF0], .inl ⟨rfl, fun c h1 h2 => absurd h2 (by omega)⟩⟩
  | t + 1, i, k, hi, hk => by
    obtain ⟨k', rfl, _⟩ := fuel hk
    have hl : i < n := by omega
    by_cases h : f i = e i
    · obtain ⟨o, h1, h2⟩ := SameRow_g hf he hb hn K t (i + 1) k' (by omega) (by omega)
      refine ⟨o, by simp only [F_gantryref09_SameRow_l4, mp_len, dT (show (i : Int) < (n : Int) by omega), cT0, rdMp (f := f) hl, rdMp (f := e) hl, oB, qsame_ok (hf i hl) (he i hl) hb hb, decide_eq_true h, Bool.not_true, cF0, ckS (i := i) (by omega), h1], ?_⟩
      rcases h2 with ⟨h2, h3⟩ | h2
      · exact .inl ⟨h2, fun c hc1 hc2 => by
          by_cases ec : c = i
          · rw [ec]; exact h
          · exact h3 c (by omega) hc2⟩
      · exact .inr h2
    · exact ⟨.ret false, by simp only [F_gantryref09_SameRow_l4, mp_len, dT (show (i : Int) < (n : Int) by omega), cT0, rdMp (f := f) hl, rdMp (f := e) hl, oB, qsame_ok (hf i hl) (he i hl) hb hb, decide_eq_false h, Bool.not_false], .inr ⟨rfl, fun h' => h (h' i hl)⟩⟩
theorem SameRow_go {f e : Nat → Rat} {n b : Nat} (hf : ∀ c, c < n → Bd b (f c)) (he : ∀ c, c < n → Bd b (e c)) (hb : b ≤ 1073741824) (hn : n ≤ 1000) {K : Nat} (hK : n < K) : ∃ o, F_gantryref09_SameRow K (mp f n) (mp e n) = some o ∧ (o = true ↔ ∀ c, c < n → f c = e c) := by
  obtain ⟨o, h1, h2⟩ := SameRow_g hf he hb hn K n 0 K (by omega) hK
  simp only [Int.natCast_zero] at h1
  simp only [F_gantryref09_SameRow, mp_len, nF (rfl : (n : Int) = n), cF0, h1, oB]
  rcases h2 with ⟨rfl, h2⟩ | ⟨rfl, h2⟩
  · exact ⟨true, by simp only [F_gantryref09_SameRow_j5], ⟨fun _ c hc => h2 c (Nat.zero_le _) hc, fun _ => rfl⟩⟩
  · exact ⟨false, rfl, ⟨fun h => (by cases h), fun h => absurd h h2⟩⟩
theorem Same_g {g q : Nat → Nat → Rat} {n b : Nat} (hg : Bdx n n b g) (hq : Bdx n n b q) (hb : b ≤ 1073741824) (hn : n ≤ 1000) {K : Nat} (hK : n < K) : ∀ (t i k : Nat), i + t = n → t < k → ∃ o : LR Bool Unit, F_gantryref09_Same_l4 K (mx g n n) (mx q n n) k (i : Int) = some o ∧ (o = .go () ∧ (∀ j, i ≤ j → j < n → ∀ c, c < n → g j c = q j c) ∨ o = .ret false ∧ ¬ ∀ j, j < n → ∀ c, c < n → g j c = q j c)
  | 0, i, k, hi, hk => by
    obtain ⟨k', rfl, _⟩ := fuel hk
    have : i = n := by omega
    subst this
    exact ⟨.go (), by simp only [F_gantryref09_Same_l4, mx_len, dF (show ¬ (i : Int) < (i : Int) by omega), cF0], .inl ⟨rfl, fun j h1 h2 => absurd h2 (by omega)⟩⟩
  | t + 1, i, k, hi, hk => by
    obtain ⟨k', rfl, _⟩ := fuel hk
    have hl : i < n := by omega
    obtain ⟨o1, a1, a2⟩ := SameRow_go (f := g i) (e := q i) (fun c hc => hg i c hl hc) (fun c hc => hq i c hl hc) hb hn hK
    cases o1 with
    | true =>
      obtain ⟨o, h1, h2⟩ := Same_g hg hq hb hn hK t (i + 1) k' (by omega) (by omega)
      refine ⟨o, by simp only [F_gantryref09_Same_l4, mx_len, dT (show (i : Int) < (n : Int) by omega), cT0, rdMx (g := g) (w := n) hl, rdMx (g := q) (w := n) hl, oB, a1, Bool.not_true, cF0, ckS (i := i) (by omega), h1], ?_⟩
      rcases h2 with ⟨h2, h3⟩ | h2
      · exact .inl ⟨h2, fun j hj1 hj2 => by
          by_cases ej : j = i
          · rw [ej]; exact a2.1 rfl
          · exact h3 j (by omega) hj2⟩
      · exact .inr h2
    | false =>
      exact ⟨.ret false, by simp only [F_gantryref09_Same_l4, mx_len, dT (show (i : Int) < (n : Int) by omega), cT0, rdMx (g := g) (w := n) hl, rdMx (g := q) (w := n) hl, oB, a1, Bool.not_false], .inr ⟨rfl, fun h => by have := a2.2 (h i hl); cases this⟩⟩
theorem rValid_l14 {g : Nat → Nat → Rat} {h w : Nat} (hh : h ≤ 64) (hw : w ≤ 64) (K : Nat) : ∀ (t i k : Nat), i + t = h → t < k → F_gantryref09_Valid_l4 K (mx g h w) k (i : Int) = some (.go ())
  | 0, i, k, hi, hk => by
    obtain ⟨k', rfl, _⟩ := fuel hk
    simp only [F_gantryref09_Valid_l4, mx_len, dF (show ¬ (i : Int) < (h : Int) by omega), cF0]
  | t + 1, i, k, hi, hk => by
    obtain ⟨k', rfl, _⟩ := fuel hk
    have r0 := rdMx (g := g) (w := w) (show 0 < h by omega)
    simp only [Int.natCast_zero] at r0
    simp only [F_gantryref09_Valid_l4, mx_len, dT (show (i : Int) < (h : Int) by omega), cT0, rdMx (g := g) (w := w) (show i < h by omega), r0, oB, mp_len, nF (rfl : (w : Int) = (w : Int)), cF0, dF (show ¬ (64 : Int) < (w : Int) by omega), ckS (i := i) (by omega)]
    exact rValid_l14 hh hw K t (i + 1) k' (by omega) (by omega)
theorem rValid_ok {g : Nat → Nat → Rat} {h w : Nat} (hh : h ≤ 64) (hw : w ≤ 64) {K : Nat} (hK : h < K) : F_gantryref09_Valid K (mx g h w) = some true := by
  have := rValid_l14 (g := g) hh hw K h 0 K (by omega) hK
  simp only [Int.natCast_zero] at this
  simp only [F_gantryref09_Valid, mx_len, dF (show ¬ (64 : Int) < (h : Int) by omega), cF0, this, oB, F_gantryref09_Valid_j5]
theorem part_l39 {g : Nat → Nat → Rat} {n m : Nat} (hn : n ≤ 64) (hm : m ≤ n) (K : Nat) : ∀ (t i k : Nat), i + t = m → t < k → F_gantryref09_Positive_l39 K (mx g n n) (m : Int) k (mx g i m) (i : Int) = some (mx g m m)
  | 0, i, k, hi, hk => by
    obtain ⟨k', rfl, _⟩ := fuel hk
    have : i = m := by omega
    subst this
    simp only [F_gantryref09_Positive_l39, dF (show ¬ (i : Int) < (i : Int) by omega), cF0]
  | t + 1, i, k, hi, hk => by
    obtain ⟨k', rfl, _⟩ := fuel hk
    have hl : i < n := by omega
    have s1 := slMp2 (f := g i) (n := n) (i := 0) (j := m) (by omega) hm
    simp only [Int.natCast_zero, Nat.zero_add, Nat.sub_zero] at s1
    have e5 : (fun c => g i c) = g i := rfl
    have e4 : apL (mx g i m) [mp (g i) m] = some (mx g (i + 1) m) := apM (g := fun i => mp (g i) m) (by omega)
    simp only [F_gantryref09_Positive_l39, dT (show (i : Int) < (m : Int) by omega), cT0, rdMx (g := g) (w := n) hl, oB, s1, e5, e4, ckS (i := i) (by omega)]
    exact part_l39 hn hm K t (i + 1) k' (by omega) (by omega)
/-- All determinants of the first rows and columns are positive. -/
theorem posE_all {g : Nat → Nat → Rat} : ∀ n, posE g n ↔ ∀ m, m < n → 0 < dt (m + 1) g
  | 0 => ⟨fun _ m hm => absurd hm (by omega), fun _ k hk => absurd hk (by omega)⟩
  | n + 1 => by
    constructor
    · intro h m hm
      exact (posE_dt (n := m) fun k hk => h k (by omega)).2 (h m hm)
    · intro h k hk
      exact (posE_dt (n := k) (fun j hj => (posE_all n).2 (fun m hm => h m (by omega)) j (by omega))).1 (h k hk)
theorem rPos_l14 {g : Nat → Nat → Rat} {n b : Nat} (hg : Bdx n n b g) (hn : n ≤ 5) (hB : ∀ m, m ≤ 5 → dtb b m ≤ 1000000000) {K : Nat} (hK : n + 1 < K) : ∀ (t i k : Nat), i + t = n → t < k → ∃ o : LR Bool Unit, F_gantryref09_Positive_l14 K (mx g n n) k ((i + 1 : Nat) : Int) = some o ∧ (o = .go () ∧ (∀ m, i ≤ m → m < n → 0 < dt (m + 1) g) ∨ o = .ret false ∧ ¬ ∀ m, m < n → 0 < dt (m + 1) g)
  | 0, i, k, hi, hk => by
    obtain ⟨k', rfl, _⟩ := fuel hk
    have : i = n := by omega
    subst this
    exact ⟨.go (), by simp only [F_gantryref09_Positive_l14, mx_len, dF (show ¬ ((i + 1 : Nat) : Int) ≤ (i : Int) by omega), cF0], .inl ⟨rfl, fun m h1 h2 => absurd h2 (by omega)⟩⟩
  | t + 1, i, k, hi, hk => by
    obtain ⟨k', rfl, _⟩ := fuel hk
    have h39 := part_l39 (g := g) (n := n) (m := i + 1) (by omega) (by omega) K (i + 1) 0 K (by omega) (by omega)
    have z : mx g 0 (i + 1) = [] := rfl
    rw [z] at h39
    simp only [Int.natCast_zero] at h39
    obtain ⟨d1, d2⟩ := rDet_ok (g := g) (n := i + 1) (b := b) (fun r c hr hc => hg r c (by omega) (by omega)) (by omega) (fun m hm => hB m (by omega)) (K := K) (by omega)
    have h5 := hB (i + 1) (by omega)
    by_cases hp : 0 < dt (i + 1) g
    · obtain ⟨o, h1, h2⟩ := rPos_l14 hg hn hB hK t (i + 1) k' (by omega) (by omega)
      refine ⟨o, by simp only [F_gantryref09_Positive_l14, mx_len, dT (show ((i + 1 : Nat) : Int) ≤ (n : Int) by omega), cT0, h39, oB, F_gantryref09_Positive_j40, d1, qsgn_ok d2 (by omega), dF (fun h => sgn_pos.1 h hp), cF0, ckS (i := i + 1) (by omega), h1], ?_⟩
      rcases h2 with ⟨h2, h3⟩ | h2
      · exact .inl ⟨h2, fun m h4 h5 => by
          by_cases e : m = i
          · rw [e]; exact hp
          · exact h3 m (by omega) h5⟩
      · exact .inr h2
    · exact ⟨.ret false, by simp only [F_gantryref09_Positive_l14, mx_len, dT (show ((i + 1 : Nat) : Int) ≤ (n : Int) by omega), cT0, h39, oB, F_gantryref09_Positive_j40, d1, qsgn_ok d2 (by omega), dT (sgn_pos.2 hp)], .inr ⟨rfl, fun h => hp (h i (by omega))⟩⟩
theorem rPositive_ok {g : Nat → Nat → Rat} {n b : Nat} (hg : Bdx n n b g) (hb : b ≤ 1000000) (hn : n ≤ 5) (hB : ∀ m, m ≤ 5 → dtb b m ≤ 1000000000) {K : Nat} (hK : 2 * n + 1 < K) : ∃ o, F_gantryref09_Positive K (mx g n n) = some o ∧ (o = true ↔ symM g n ∧ posE g n) := by
  have ht := rTurn_ok (g := g) (Cok_self n) (show n ≤ 100 by omega) (show n ≤ 100 by omega) (K := K) (by omega)
  obtain ⟨o1, s1, s2⟩ := Same_g (q := tr g) hg (fun i c hi hc => hg c i hc hi) (by omega) (show n ≤ 1000 by omega) (K := K) (by omega) n 0 K (by omega) (by omega)
  simp only [Int.natCast_zero] at s1
  have esym : (∀ j, j < n → ∀ c, c < n → g j c = tr g j c) ↔ symM g n := by
    constructor
    · intro h i hi k hk; exact h i hi k (by omega)
    · intro h j hj c hc
      rcases Nat.lt_trichotomy c j with h1 | h1 | h1
      · exact h j hj c h1
      · rw [h1]; rfl
      · exact (h c hc j h1).symm
  simp only [F_gantryref09_Positive, rValid_ok (g := g) (show n ≤ 64 by omega) (show n ≤ 64 by omega) (K := K) (by omega), oB, Bool.not_true, cF0, rcols_ok (g := g) (Cok_self n), mx_len, nF (rfl : (n : Int) = n), ht, F_gantryref09_Same, s1]
  rcases s2 with ⟨rfl, s2⟩ | ⟨rfl, s2⟩
  · have hs : symM g n := esym.1 fun j hj => s2 j (Nat.zero_le _) hj
    obtain ⟨o2, p1, p2⟩ := rPos_l14 hg hn hB (K := K) (by omega) n 0 K (by omega) (by omega)
    rw [show ((0 + 1 : Nat) : Int) = 1 from rfl] at p1
    simp only [F_gantryref09_Same_j5, oB, Bool.not_true, cF0, p1]
    rcases p2 with ⟨rfl, p2⟩ | ⟨rfl, p2⟩
    · exact ⟨true, by simp only [F_gantryref09_Positive_j15], ⟨fun _ => ⟨hs, (posE_all n).2 fun m hm => p2 m (Nat.zero_le _) hm⟩, fun _ => rfl⟩⟩
    · exact ⟨false, rfl, ⟨fun h => (by cases h), fun h => absurd ((posE_all n).1 h.2) p2⟩⟩
  · exact ⟨false, by simp only [oB, Bool.not_false, cT0], ⟨fun h => (by cases h), fun h => absurd (esym.2 h.1) s2⟩⟩
theorem Inverse_bad {M : List (List Rat)} (hM : Bad M) {K : Nat} (hK : 64 < K) : F_matrix_Inverse K M = some ([], 1) := by
  simp only [F_matrix_Inverse, square_bad hM hK, oB, Bool.not_false, cT0]
theorem Inverse_no {g : Nat → Nat → Rat} {h w : Nat} (hc : Cok h w) (hh : h ≤ 64) (hw : w ≤ 64) (hne : h ≠ w) {K : Nat} (hK : h < K) : F_matrix_Inverse K (mx g h w) = some ([], 1) := by
  simp only [F_matrix_Inverse, square_no hc hh hw hne hK, oB, Bool.not_false, cT0]
theorem Positive_bad {M : List (List Rat)} (hM : Bad M) {K : Nat} (hK : 64 < K) : F_matrix_Positive K M = some false := by
  simp only [F_matrix_Positive, square_bad hM hK, oB, Bool.not_false, cT0]
theorem Positive_no {g : Nat → Nat → Rat} {h w : Nat} (hc : Cok h w) (hh : h ≤ 64) (hw : w ≤ 64) (hne : h ≠ w) {K : Nat} (hK : h < K) : F_matrix_Positive K (mx g h w) = some false := by
  simp only [F_matrix_Positive, square_no hc hh hw hne hK, oB, Bool.not_false, cT0]
theorem rPositive_no {g : Nat → Nat → Rat} {h w : Nat} (hc : Cok h w) (hh : h ≤ 64) (hw : w ≤ 64) (hne : h ≠ w) {K : Nat} (hK : h < K) : F_gantryref09_Positive K (mx g h w) = some false := by
  simp only [F_gantryref09_Positive, rValid_ok (g := g) hh hw hK, oB, Bool.not_true, cF0, rcols_ok (g := g) hc, mx_len, nT (show (h : Int) ≠ (w : Int) by omega), cT0]
theorem dtb200 : ∀ m, m ≤ 5 → dtb 200 m ≤ 1000000000 := by decide
theorem Inv_j34 {how : Int} {ι : Nat → Nat} {G : Nat → Nat → Rat} {h w : Nat} {w1 : Int} (hi : I64 how) (hc : Cok h w) (hh : h ≤ 5) (hw : w ≤ 5) (hι : ∀ j, j < h → ι j < h) (hG : Bdx h w 200 G) : Ev (fun K => F_gantrylaw09_MatrixInverts_j34 K how ((h : Int), w1) (w : Int) (mp ι h) (mx G h w)) true := by
  have g1 : Bdx h w 200 (fun i => G (ι i)) := fun i c hi hc => hG _ _ (hι i hi) hc
  have es := selS (G := G) (w := w) hι
  generalize (fun i => G (ι i)) = g at *
  obtain ⟨M, m1, m2, m3⟩ := ragged_ok (g := g) hh hw hc hi
  obtain ⟨N, hN⟩ := lives09_ok
  refine ⟨N + 2000, fun K hK => ?_⟩
  have hlv := hN K (by omega)
  simp only at hlv
  have b1 := Inverse_bad m2 (K := K) (by omega)
  have b2 := Positive_bad m2 (K := K) (by omega)
  by_cases he : h = w
  · subst he
    have hB : 5 ^ h * 200 ≤ 625000 := Nat.le_trans (pow5_le hh) (by decide)
    have i1 := Inverse_ok g1 (by omega) (show 5 ^ h * 200 ≤ 200000000 by omega) (show h ≤ 64 by omega) (K := K) (by omega)
    have i2 := rInverse_ok g1 (by omega) (show 5 ^ h * 200 ≤ 200000000 by omega) (show h ≤ 64 by omega) (K := K) (by omega)
    obtain ⟨o1, p1, p2⟩ := Positive_ok g1 (by omega) (show 5 ^ h * 200 ≤ 200000000 by omega) (show h ≤ 64 by omega) (K := K) (by omega)
    obtain ⟨o2, q1, q2⟩ := rPositive_ok g1 (by omega) hh dtb200 (K := K) (by omega)
    have eo : o1 = o2 := by
      have : (o1 = true) ↔ (o2 = true) := p2.trans q2.symm
      cases o1 <;> cases o2 <;> simp_all
    subst eo
    have ibd : Bdx h h 625000 (invM g h) := (inv_bd g1 (by omega)).mono hB
    simp only [F_gantrylaw09_MatrixInverts_j34, es, i1, m1, oB, b1, nF (rfl : (1 : Int) = 1), cF0, b2, p1, q1, bne_self_eq_false, nF (rfl : (h : Int) = (h : Int)), i2]
    by_cases hf : rank g h h = h
    · have s2 := SameM (g := invM g h) ibd (by omega) (by omega) (by omega) (K := K) (by omega)
      simp only [if_pos hf, Bool.not_true, cF0, qT (rfl : (0 : Int) = 0), cT0, s2, oB, hlv]
    · simp only [if_neg hf, Bool.not_false, cT0, qT (rfl : (6 : Int) = 6), List.length_nil, Int.natCast_zero, qT (rfl : (0 : Int) = 0), hlv, oB]
  · simp only [F_gantrylaw09_MatrixInverts_j34, es, m1, oB, b1, nF (rfl : (1 : Int) = 1), cF0, b2, Inverse_no (g := g) hc (show h ≤ 64 by omega) (show w ≤ 64 by omega) he (K := K) (by omega), Positive_no (g := g) hc (show h ≤ 64 by omega) (show w ≤ 64 by omega) he (K := K) (by omega), rPositive_no (g := g) hc (show h ≤ 64 by omega) (show w ≤ 64 by omega) he (K := K) (by omega), bne_self_eq_false, nT (show (h : Int) ≠ (w : Int) by omega), cT0, qT (rfl : (1 : Int) = 1), List.length_nil, Int.natCast_zero, qT (rfl : (0 : Int) = 0), hlv]
theorem Inv_j5 {l : List Int} {how v : Int} {h w : Nat} {w1 : Int} (hl : I64s l) (hi : I64 how) (hv : chr how 4 = some v) (hc : Cok h w) (hh : h ≤ 5) (hw : w ≤ 5) (hsq : 1 < v → 0 < h → w = h) : Ev (fun K => F_gantrylaw09_MatrixInverts_j5 K l how ((h : Int), w1) (w : Int)) true := by
  obtain ⟨G, ι, g1, g2, g3⟩ := MatS_ok hl hh hw
  by_cases h1 : 1 < v ∧ 0 < h
  · have := hsq h1.1 h1.2
    subst this
    obtain ⟨G', a1, a2⟩ := Inv_l113 (how := how) (w1 := w1) g2 hh w 0 G (by omega) (by simpa using g1)
    simp only [Int.natCast_zero] at a2
    obtain ⟨N, hN⟩ := Inv_j34 (w1 := w1) hi (Cok_self w) hh hh g2 (a1.mono (show 100 + 4 * w ≤ 200 by omega))
    refine ⟨N + 20, fun K hK => ?_⟩
    have := hN K (by omega)
    simp only at this
    simp only [F_gantrylaw09_MatrixInverts_j5, g3 K (by omega), oB, hv, dT h1.1, cT0, dT (show (0 : Int) < (w : Int) by omega), a2 K K (by omega) (by omega), F_gantrylaw09_MatrixInverts_j114]
    exact this
  · obtain ⟨N, hN⟩ := Inv_j34 (w1 := w1) hi hc hh hw g2 (g1.mono (by omega))
    refine ⟨N + 20, fun K hK => ?_⟩
    have := hN K (by omega)
    simp only at this
    by_cases h2 : 1 < v
    · have h0 : h = 0 := by omega
      simp only [F_gantrylaw09_MatrixInverts_j5, g3 K (by omega), oB, hv, dT h2, cT0, dF (show ¬ (0 : Int) < (h : Int) by omega), cF0]
      exact this
    · simp only [F_gantrylaw09_MatrixInverts_j5, g3 K (by omega), oB, hv, dF h2, cF0]
      exact this
theorem MatrixInverts_pure {a0 : List Int} {a1 a2 : Int} (h0 : I64s a0) (h1 : -9223372036854775808 ≤ a1 ∧ a1 ≤ 9223372036854775807) (h2 : -9223372036854775808 ≤ a2 ∧ a2 ≤ 9223372036854775807) : ∃ K, F_gantrylaw09_MatrixInverts K a0 a1 a2 = some true := by
  obtain ⟨h, w, e1, hh, hw, hc⟩ := sizes_ok (n := a1) h1
  obtain ⟨v, v1⟩ := chr_rng (x := a2) (y := 4) (by omega)
  refine (?_ : Ev (fun K => F_gantrylaw09_MatrixInverts K a0 a1 a2) true).get
  by_cases hv : 0 < v
  · by_cases hr : 0 < h
    · obtain ⟨N, hN⟩ := Inv_j5 (w1 := (w : Int)) h0 h2 v1 (Cok_self h) hh hh (fun _ _ => rfl)
      refine ⟨N, fun K hK => ?_⟩
      have := hN K hK
      simp only at this
      simp only [F_gantrylaw09_MatrixInverts, e1, oB, v1, dT hv, cT0, dT (show (0 : Int) < (h : Int) by omega)]
      exact this
    · obtain ⟨N, hN⟩ := Inv_j5 (w1 := (w : Int)) h0 h2 v1 hc hh hw (fun _ h => absurd h hr)
      refine ⟨N, fun K hK => ?_⟩
      have := hN K hK
      simp only at this
      simp only [F_gantrylaw09_MatrixInverts, e1, oB, v1, dT hv, cT0, dF (show ¬ (0 : Int) < (h : Int) by omega), cF0]
      exact this
  · obtain ⟨N, hN⟩ := Inv_j5 (w1 := (w : Int)) h0 h2 v1 hc hh hw (fun h _ => absurd h (by omega))
    refine ⟨N, fun K hK => ?_⟩
    have := hN K hK
    simp only at this
    simp only [F_gantrylaw09_MatrixInverts, e1, oB, v1, dF hv, cF0]
    exact this
end Go.Proofs.YtkjnngaceacmdaaGreat
