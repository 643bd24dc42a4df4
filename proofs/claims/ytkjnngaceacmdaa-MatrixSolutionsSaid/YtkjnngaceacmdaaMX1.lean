/- The law MatrixSolutions, without a program in sight. -/
import Derived.Test.YtkjnngaceacmdaaMD
set_option linter.unusedVariables false
namespace Go.Proofs.Ytkjnngaceacmdaa

/-- The free columns. -/
def frees (s : RS) : Nat → List Nat
  | 0 => []
  | k + 1 => if k ∈ s.ps then frees s k else frees s k ++ [k]
theorem kerL_frees {s : RS} {w : Nat} : ∀ k, kerL s w k = (frees s k).map fun x => mp (kvec s x s.ps.length) w
  | 0 => rfl
  | k + 1 => by
    rw [kerL_succ, frees, kerL_frees k]
    split
    · rfl
    · rw [List.map_append]; rfl
theorem frees_mem {s : RS} {x : Nat} : ∀ k, x ∈ frees s k → x < k ∧ x ∉ s.ps
  | 0, h => absurd h List.not_mem_nil
  | k + 1, h => by
    rw [frees] at h
    split at h
    · have := frees_mem k h; exact ⟨by omega, this.2⟩
    · rename_i hk
      rcases List.mem_append.1 h with h | h
      · have := frees_mem k h; exact ⟨by omega, this.2⟩
      · rw [List.mem_singleton.1 h]; exact ⟨by omega, hk⟩
def lsm (f : Nat → Rat) : List Nat → Rat
  | [] => 0
  | x :: xs => f x + lsm f xs
theorem lsm_app (f : Nat → Rat) (b : List Nat) : ∀ a : List Nat, lsm f (a ++ b) = lsm f a + lsm f b
  | [] => by simp only [List.nil_append, lsm]; grind
  | x :: xs => by simp only [List.cons_append, lsm, lsm_app f b xs]; grind
theorem frees_sum {s : RS} (f : Nat → Rat) : ∀ k, lsm f (frees s k) = sm (fun j => if j ∈ s.ps then 0 else f j) k
  | 0 => rfl
  | k + 1 => by
    rw [frees, sm]
    split
    · rw [frees_sum f k]; grind
    · rw [lsm_app, frees_sum f k]; simp only [lsm]; grind
theorem So_l48 {v x : Nat → Rat} {h w b b' : Nat} (hv : ∀ c, c < w → Bd b (v c)) (hx : ∀ c, c < w → Bd b' (x c)) (hb : b ≤ 1073741824) (hb' : b' ≤ 1073741824) (hw : w ≤ 1000) (K : Nat) : ∀ (t i k : Nat), i + t = w → t < k → F_gantrylaw09_MatrixSolutions_l48 K ((h : Int), (w : Int)) (mp v w) (mp x w, 0) k (mp (mid (fun c => v c - x c) (fun _ => 0) i) w) (i : Int) = some (mp (fun c => v c - x c) w)
  | 0, i, k, hi, hk => by
    obtain ⟨k', rfl, _⟩ := fuel hk
    have : i = w := by omega
    subst this
    simp only [F_gantrylaw09_MatrixSolutions_l48, dF (show ¬ (i : Int) < (i : Int) by omega), cF0]
    rw [mp_congr fun j hj => mid_end hj]
  | t + 1, i, k, hi, hk => by
    obtain ⟨k', rfl, _⟩ := fuel hk
    have hl : i < w := by omega
    have e := mid_next (f := fun c => v c - x c) (e := fun _ => (0 : Rat)) (c := i)
    simp only [F_gantrylaw09_MatrixSolutions_l48, dT (show (i : Int) < (w : Int) by omega), cT0, rdMp (f := v) hl, rdMp (f := x) hl, oB, qsub_ok (hv i hl) (hx i hl) hb hb', rdMp (f := mid (fun c => v c - x c) (fun _ => 0) i) hl, stMp (f := mid (fun c => v c - x c) (fun _ => 0) i) hl, ckS (i := i) (by omega), e]
    exact So_l48 hv hx hb hb' hw K t (i + 1) k' (by omega) (by omega)
theorem So_l135 {r kv : Nat → Rat} {a : Rat} {L : List (List Rat)} {e j : Int} {h w b b' c : Nat} (hr : ∀ c, c < w → Bd b (r c)) (hk' : ∀ c, c < w → Bd b' (kv c)) (ha : Bd c a) (hrd : rdL L j = some (mp kv w)) (hb : b ≤ 1073741824) (hb' : c + b' ≤ 1073741824) (hw : w ≤ 1000) (K : Nat) : ∀ (t i k : Nat), i + t = w → t < k → F_gantrylaw09_MatrixSolutions_l135 K ((h : Int), (w : Int)) (L, e) j a k (mp (mid (fun c => r c - a * kv c) r i) w) (i : Int) = some (mp (fun c => r c - a * kv c) w)
  | 0, i, k, hi, hk => by
    obtain ⟨k', rfl, _⟩ := fuel hk
    have : i = w := by omega
    subst this
    simp only [F_gantrylaw09_MatrixSolutions_l135, dF (show ¬ (i : Int) < (i : Int) by omega), cF0]
    rw [mp_congr fun j hj => mid_end hj]
  | t + 1, i, k, hi, hk => by
    obtain ⟨k', rfl, _⟩ := fuel hk
    have hl : i < w := by omega
    have e' := mid_next (f := fun c => r c - a * kv c) (e := r) (c := i)
    simp only [F_gantrylaw09_MatrixSolutions_l135, dT (show (i : Int) < (w : Int) by omega), cT0, rdMp (f := mid (fun c => r c - a * kv c) r i) hl, mid_at, hrd, oB, rdMp (f := kv) hl, qmul_ok ha (hk' i hl) (by omega) (by omega), qsub_ok (hr i hl) (ha.mul (hk' i hl)) hb hb', stMp (f := mid (fun c => r c - a * kv c) r i) hl, ckS (i := i) (by omega), e']
    exact So_l135 hr hk' ha hrd hb hb' hw K t (i + 1) k' (by omega) (by omega)
theorem So_l110 {kv : Nat → Rat} {L : List (List Rat)} {e j : Int} {w b x : Nat} (hk' : ∀ c, c < w → Bd b (kv c)) (hb : b ≤ 1073741824) (hrd : rdL L j = some (mp kv w)) (hlast : ∀ c, x < c → kv c = 0) (hne : kv x ≠ 0) (hw : w ≤ 1000) (K : Nat) : ∀ (t c k : Nat), c = x + t → c < w → t < k → F_gantrylaw09_MatrixSolutions_l110 K (L, e) j k (c : Int) = some (x : Int)
  | 0, c, k, hc, hcw, hk => by
    obtain ⟨k', rfl, _⟩ := fuel hk
    have : c = x := by omega
    subst this
    by_cases h0 : 0 < c
    · simp only [F_gantrylaw09_MatrixSolutions_l110, dT (show (0 : Int) < (c : Int) by omega), cT0, hrd, oB, rdMp (f := kv) hcw, qsgn_ok (hk' c hcw) hb, qF (fun h => hne (sgn0.1 h)), cF0]
    · simp only [F_gantrylaw09_MatrixSolutions_l110, dF (show ¬ (0 : Int) < (c : Int) by omega), cF0]
  | t + 1, c, k, hc, hcw, hk => by
    obtain ⟨k', rfl, _⟩ := fuel hk
    have e1 : chk ((c : Int) - 1) = some ((c - 1 : Nat) : Int) := ckN (m := 0) (by omega) (by omega)
    simp only [F_gantrylaw09_MatrixSolutions_l110, dT (show (0 : Int) < (c : Int) by omega), cT0, hrd, oB, rdMp (f := kv) hcw, qsgn_ok (hk' c hcw) hb, qT (sgn0.2 (hlast c (by omega))), e1]
    exact So_l110 hk' hb hrd hlast hne hw K t (c - 1) k' (by omega) (by omega) (by omega)
/-- What is left after some vectors of the kernel. -/
def rst (r v : Nat → Rat) (kv : Nat → Nat → Rat) (l : List Nat) (c : Nat) : Rat := r c - lsm (fun x => v x * kv x c) l
theorem So_l70 {g : Nat → Nat → Rat} {r v : Nat → Rat} {h w b b1 b2 b3 : Nat} (hg : Bdx h w b g) (hc : Cok h w) (hv : ∀ c, c < w → Bd b1 (v c)) (hr : ∀ c, c < w → Bd b3 (r c)) {s : RS} (hs : s = red g h w) (hk2 : ∀ x, x < w → ∀ c, Bd b2 (kvec s x s.ps.length c)) (hB : w * (b + b2 + 1) ≤ 1000000000) (hB2 : b3 + w * (b1 + b2 + 1) ≤ 1073741824) (hb2 : b1 + b2 ≤ 1073741824) (hh : h ≤ 64) (hw : w ≤ 64) {K : Nat} (hK : w + h < K) :
    ∀ (t j k : Nat), j + t = (frees s w).length → t < k → (∀ c, c < w → Bd (b3 + j * (b1 + b2 + 1)) (rst r v (fun x => kvec s x s.ps.length) ((frees s w).take j) c)) →
    F_gantrylaw09_MatrixSolutions_l70 K ((h : Int), (w : Int)) (mx g h w) (mp v w) (kerL s w w, 0) k (mp (rst r v (fun x => kvec s x s.ps.length) ((frees s w).take j)) w) (j : Int) = some (.go (mp (rst r v (fun x => kvec s x s.ps.length) (frees s w)) w))
  | 0, j, k, hj, hk, _ => by
    obtain ⟨k', rfl, _⟩ := fuel hk
    have e : (kerL s w w).length = (frees s w).length := by rw [kerL_frees, List.length_map]
    simp only [F_gantrylaw09_MatrixSolutions_l70, e, dF (show ¬ (j : Int) < ((frees s w).length : Int) by omega), cF0]
    rw [List.take_of_length_le (by omega)]
  | t + 1, j, k, hj, hk, hbd => by
    obtain ⟨k', rfl, _⟩ := fuel hk
    have e : (kerL s w w).length = (frees s w).length := by rw [kerL_frees, List.length_map]
    have hle := kerL_len s w w
    have hl : j < (frees s w).length := by omega
    generalize hx : (frees s w)[j] = x
    obtain ⟨hxw, hxn⟩ := frees_mem w (hx ▸ List.getElem_mem hl : x ∈ frees s w)
    have hrd : rdL (kerL s w w) (j : Int) = some (mp (kvec s x s.ps.length) w) := rdG (by
      rw [kerL_frees, List.getElem?_map, List.getElem?_eq_getElem hl, hx]; rfl)
    have ap := Applyg_ok hg (v := kvec s x s.ps.length) (fun c hc => hk2 x hxw c) hc hB hh hw (K := K) (by omega)
    have ez : mp (mulV g (kvec s x s.ps.length) w) h = mp (fun _ => 0) h := mp_congr fun i hi => by
      subst hs; exact kvec_ker hxw hxn hi
    rw [ez] at ap
    have sr := SameRow_ok (l := mp (fun _ => (0 : Rat)) h) (b := 1) (mp_bds fun i hi => Bd.zero) (by omega) (by rw [mp_len]; omega) (K := K) (by rw [mp_len]; omega)
    have e1 : chk ((w : Int) - 1) = some ((w - 1 : Nat) : Int) := ckN (m := 0) (by omega) (by omega)
    have l110 := So_l110 (kv := kvec s x s.ps.length) (e := 0) (x := x) (fun c hc => hk2 x hxw c) (by omega) hrd (fun c hc => by subst hs; exact kvec_last hxn hc) (by subst hs; rw [kvec_own hxn]; decide) (show w ≤ 1000 by omega) K (w - 1 - x) (w - 1) K (by omega) (by omega) (by omega)
    have l135 := So_l135 (r := rst r v (fun x => kvec s x s.ps.length) ((frees s w).take j)) (kv := kvec s x s.ps.length) (a := v x) (e := 0) (h := h) hbd (fun c hc => hk2 x hxw c) (hv x hxw) hrd (by
      have : j * (b1 + b2 + 1) ≤ w * (b1 + b2 + 1) := Nat.mul_le_mul_right _ (by omega)
      omega) hb2 (show w ≤ 1000 by omega) K w 0 K (by omega) (by omega)
    have e0 : mid (fun c => rst r v (fun x => kvec s x s.ps.length) ((frees s w).take j) c - v x * kvec s x s.ps.length c) (rst r v (fun x => kvec s x s.ps.length) ((frees s w).take j)) 0 = rst r v (fun x => kvec s x s.ps.length) ((frees s w).take j) := by
      funext c; exact if_neg (by omega)
    rw [e0] at l135
    have e2 : (fun c => rst r v (fun x => kvec s x s.ps.length) ((frees s w).take j) c - v x * kvec s x s.ps.length c) = rst r v (fun x => kvec s x s.ps.length) ((frees s w).take (j + 1)) := by
      funext c
      unfold rst
      rw [List.take_succ_eq_append_getElem hl, hx, lsm_app]
      simp only [lsm]; grind
    have hbd' : ∀ c, c < w → Bd (b3 + (j + 1) * (b1 + b2 + 1)) (rst r v (fun x => kvec s x s.ps.length) ((frees s w).take (j + 1)) c) := fun c hc => by
      rw [← e2]
      exact ((hbd c hc).sub ((hv x hxw).mul (hk2 x hxw c))).mono (by rw [Nat.add_mul]; omega)
    rw [e2] at l135
    simp only [Int.natCast_zero] at l135
    simp only [F_gantrylaw09_MatrixSolutions_l70, e, dT (show (j : Int) < ((frees s w).length : Int) by omega), cT0, hrd, oB, ap, nF (rfl : (0 : Int) = 0), cF0, mp_len, nF (rfl : (w : Int) = (w : Int)), mkMp (z := (0 : Rat)) (n := h) (by omega), sr, Bool.not_true, e1, l110, F_gantrylaw09_MatrixSolutions_j111, rdMp (f := v) hxw, l135, F_gantrylaw09_MatrixSolutions_j136, ckS (i := j) (by omega)]
    exact So_l70 hg hc hv hr hs hk2 hB hB2 hb2 hh hw hK t (j + 1) k' (by omega) (by omega) hbd'
set_option maxRecDepth 10000 in
theorem MatrixSolutions_pure {a0 a1 : List Int} {a2 : Int} (h0 : I64s a0) (h1 : I64s a1) (h2 : -9223372036854775808 ≤ a2 ∧ a2 ≤ 9223372036854775807) : ∃ K, F_gantrylaw09_MatrixSolutions K a0 a1 a2 = some true := by
  obtain ⟨h, w, e1, hh, hw, hc⟩ := sizes_ok (n := a2) h2
  obtain ⟨g, g1, g2⟩ := Mat_ok h0 hh hw
  obtain ⟨v, v1, v2⟩ := Row_ok h1 (at0 := 0) ⟨by omega, by omega⟩ (n := w) (by omega)
  obtain ⟨N, hN⟩ := lives09_ok
  refine (?_ : Ev (fun K => F_gantrylaw09_MatrixSolutions K a0 a1 a2) true).get
  refine ⟨N + 2000, fun K hK => ?_⟩
  have hlv := hN K (by omega)
  simp only at hlv
  have hw1 : w * (100 + 8 + 1) ≤ 5 * (100 + 8 + 1) := Nat.mul_le_mul_right _ hw
  have fb : ∀ i, i < h → Bd 600 (mulV g v w i) := fun i hi => (sm_bd (fun c hc => g1 i c hi hc) v1 w (Nat.le_refl _)).mono (by omega)
  have g6 : Bdx h w 600 g := g1.mono (by omega)
  have hB1 : 5 ^ w * 100 ≤ 312500 := Nat.le_trans (pow5_le hw) (by decide)
  have hB6 : 5 ^ w * 600 ≤ 1875000 := Nat.le_trans (pow5_le hw) (by decide)
  have ap := Applyg_ok g1 v1 hc (Nat.le_trans hw1 (by decide)) (show h ≤ 64 by omega) (show w ≤ 64 by omega) (K := K) (by omega)
  have so := pSolve_ok g6 fb hc (by omega) (show 5 ^ w * 600 ≤ 200000000 by omega) (show h ≤ 64 by omega) (show w ≤ 63 by omega) (K := K) (by omega)
  obtain ⟨s1, s2⟩ := solved_ok (g := g) (f := mulV g v w) (v := v) (h := h) (w := w) (fun i _ => rfl)
  rw [s1] at so
  simp only at so
  have xb := (solved_bd g6 fb (by omega) s1).2
  have hrest := fun c (hc : c < w) => rest_zero (g := g) (f := mulV g v w) (v := v) (h := h) (w := w) (fun i _ => rfl) hc
  generalize svec (red (wid g (mulV g v w) w) h w) w (red (wid g (mulV g v w) w) h w).ps.length = x at *
  have xb' : ∀ c, c < w → Bd 1875000 (x c) := fun c hc => (show Bd (5 ^ w * 600) (x c) from by
    have := xb _ (at_mem (l := mp x w) (i := c) (by rw [mp_len]; exact hc))
    rwa [mp_at hc] at this).mono hB6
  have ke := Kernel_ok g1 hc (by omega) (show 5 ^ w * 100 ≤ 200000000 by omega) (show h ≤ 64 by omega) (show w ≤ 64 by omega) (K := K) (by omega)
  have ra := Rank_ok g1 hc (by omega) (show 5 ^ w * 100 ≤ 200000000 by omega) (show h ≤ 64 by omega) (show w ≤ 64 by omega) (K := K) (by omega)
  have kr := kerL_rank (g := g) (h := h) (w := w)
  have hrk : rank g h w = (red g h w).ps.length := rfl
  have e20 : chk ((rank g h w : Int) + ((kerL (red g h w) w w).length : Int)) = some (w : Int) := ckN (m := 0) (by omega) (by omega)
  have l48 := So_l48 (h := h) v1 xb' (by omega) (by omega) (show w ≤ 1000 by omega) K w 0 K (by omega) (by omega)
  have e0 : mid (fun c => v c - x c) (fun _ => (0 : Rat)) 0 = fun _ => 0 := by funext c; exact if_neg (by omega)
  rw [e0] at l48
  simp only [Int.natCast_zero] at l48
  have rb : ∀ c, c < w → Bd 1875009 (v c - x c) := fun c hc => ((v1 c hc).sub (xb' c hc)).mono (by decide)
  have rd := red_ok g1 (by omega) w (Nat.le_refl _)
  have kb : ∀ x, x < w → ∀ c, Bd 312500 (kvec (red g h w) x (red g h w).ps.length c) := fun x hx c => (kvec_bd rd.bd (pow_pos5 w 100 (by omega)) hx rd.ph _ (Nat.le_refl _) c).mono hB1
  have hw2 : w * (100 + 312500 + 1) ≤ 5 * (100 + 312500 + 1) := Nat.mul_le_mul_right _ hw
  have hw3 : w * (8 + 312500 + 1) ≤ 5 * (8 + 312500 + 1) := Nat.mul_le_mul_right _ hw
  have hw4 : w * (100 + 1875000 + 1) ≤ 5 * (100 + 1875000 + 1) := Nat.mul_le_mul_right _ hw
  have l70 := So_l70 (r := fun c => v c - x c) g1 hc v1 rb rfl kb (Nat.le_trans hw2 (by decide)) (Nat.le_trans (Nat.add_le_add_left hw3 _) (by decide)) (by decide) (show h ≤ 64 by omega) (show w ≤ 64 by omega) (K := K) (by omega) (frees (red g h w) w).length 0 K (by omega) (by
    have : (frees (red g h w) w).length = (kerL (red g h w) w w).length := by rw [kerL_frees, List.length_map]
    omega) (fun c hc => by
      rw [List.take_zero]
      unfold rst
      simp only [lsm]
      have e : v c - x c - 0 = v c - x c := by grind
      rw [e]
      exact (rb c hc).mono (Nat.le_add_right _ _))
  have et : rst (fun c => v c - x c) v (fun x => kvec (red g h w) x (red g h w).ps.length) ((frees (red g h w) w).take 0) = fun c => v c - x c := by
    funext c
    rw [List.take_zero]
    unfold rst
    simp only [lsm]; grind
  rw [et] at l70
  simp only [Int.natCast_zero] at l70
  have ez : mp (rst (fun c => v c - x c) v (fun x => kvec (red g h w) x (red g h w).ps.length) (frees (red g h w) w)) w = mp (fun _ => 0) w := mp_congr fun c hc => by
    unfold rst
    rw [frees_sum]
    exact hrest c hc
  rw [ez] at l70
  have ap2 := Applyg_ok g1 xb' hc (Nat.le_trans hw4 (by decide)) (show h ≤ 64 by omega) (show w ≤ 64 by omega) (K := K) (by omega)
  rw [mp_congr (f := mulV g x w) (g := mulV g v w) fun i hi => s2 i hi] at ap2
  have sr1 := SameRow_ok (l := mp (mulV g v w) h) (mp_bds fb) (by omega) (by rw [mp_len]; omega) (K := K) (by rw [mp_len]; omega)
  have sr2 := SameRow_ok (l := mp (fun _ => (0 : Rat)) w) (b := 1) (mp_bds fun i hi => Bd.zero) (by omega) (by rw [mp_len]; omega) (K := K) (by rw [mp_len]; omega)
  simp only [F_gantrylaw09_MatrixSolutions, e1, oB, g2 K (by omega), v2 K (by omega), ap, so, ke, ra, nF (rfl : (0 : Int) = 0), cF0, mp_len, nF (rfl : (w : Int) = (w : Int)), e20, mkMp (z := (0 : Rat)) (n := w) (by omega), l48, F_gantrylaw09_MatrixSolutions_j49, l70, F_gantrylaw09_MatrixSolutions_j71, ap2, qT (rfl : (0 : Int) = 0), cT0, sr1, sr2, hlv]
end Go.Proofs.Ytkjnngaceacmdaa
