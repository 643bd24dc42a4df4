/- What matrix.reduce computes: the reduced rows. -/
import Derived.Test.YtkjnngaceacmdaaGreatMA
set_option linter.unusedVariables false
namespace Go.Proofs.YtkjnngaceacmdaaGreat

/-- The rows that the list of indices names, in a pool of rows. -/
structure Rep (ι : Nat → Nat) (pool : List (List Rat)) (g : Nat → Nat → Rat) (h w : Nat) : Prop where
  inj : ∀ i j, i < h → j < h → ι i = ι j → i = j
  lt : ∀ i, i < h → ι i < pool.length
  el : ∀ i, i < h → pool.getD (ι i) [] = mp (g i) w
theorem Rep.set {ι : Nat → Nat} {pool : List (List Rat)} {g : Nat → Nat → Rat} {h w i : Nat} (r : Rep ι pool g h w) (hi : i < h) (f : Nat → Rat) : Rep ι (pool.set (ι i) (mp f w)) (upd g i f) h w := by
  refine ⟨r.inj, fun j hj => by rw [List.length_set]; exact r.lt j hj, fun j hj => ?_⟩
  rw [List.getD_eq_getElem?_getD, List.getElem?_set]
  by_cases he : j = i
  · subst he
    rw [if_pos rfl, if_pos (r.lt j hj), upd_same]; rfl
  · rw [if_neg (fun h => he (r.inj j i hj hi h.symm)), ← List.getD_eq_getElem?_getD, r.el j hj, upd_ne he]
theorem Rep.congr {ι : Nat → Nat} {pool : List (List Rat)} {g g' : Nat → Nat → Rat} {h w : Nat} (r : Rep ι pool g h w) (e : ∀ i c, i < h → c < w → g i c = g' i c) : Rep ι pool g' h w :=
  ⟨r.inj, r.lt, fun i hi => by rw [r.el i hi]; exact mp_congr fun c hc => e i c hi hc⟩
theorem Rep.sel {ι : Nat → Nat} {pool : List (List Rat)} {g : Nat → Nat → Rat} {h w : Nat} (r : Rep ι pool g h w) : selL pool (mp ι h) = mx g h w := by
  unfold selL mx
  apply List.ext_getElem?
  intro j
  by_cases hj : j < h
  · rw [List.getElem?_map, mp_get hj, mp_get hj, ← r.el j hj]; rfl
  · rw [List.getElem?_map, List.getElem?_eq_none (by simp [mp]; omega), List.getElem?_eq_none (by simp [mp]; omega)]; rfl
theorem Rep.swap {ι : Nat → Nat} {pool : List (List Rat)} {g : Nat → Nat → Rat} {h w n a : Nat} (r : Rep ι pool g h w) (hn : n < h) (ha : a < h) (hne : n ≠ a) : Rep (upd (upd ι n (ι a)) a (ι n)) pool (swp g n a) h w := by
  have key : ∀ i, upd (upd ι n (ι a)) a (ι n) i = ι (if i = n then a else if i = a then n else i) := fun i => by
    unfold upd
    by_cases h1 : i = n
    · rw [if_pos h1, if_neg (by omega), if_pos h1]
    · rw [if_neg h1]
      by_cases h2 : i = a
      · rw [if_pos h2, if_pos h2, if_neg h1]
      · rw [if_neg h2, if_neg h1, if_neg h2]
  refine ⟨fun i j hi hj e => ?_, fun i hi => ?_, fun i hi => ?_⟩
  · rw [key, key] at e
    have := r.inj _ _ (swp_lt hn ha hi) (swp_lt hn ha hj) e
    split at this <;> split at this <;> (try split at this) <;> (try split at this) <;> omega
  · rw [key]; exact r.lt _ (swp_lt hn ha hi)
  · rw [key]; exact r.el _ (swp_lt hn ha hi)
/-- A row, up to c the new one. -/
def mid (f e : Nat → Rat) (c j : Nat) : Rat := if j < c then f j else e j
theorem mid_at {f e : Nat → Rat} {c : Nat} : mid f e c c = e c := if_neg (Nat.lt_irrefl c)
theorem mid_next {f e : Nat → Rat} {c : Nat} : upd (mid f e c) c (f c) = mid f e (c + 1) := by
  funext j
  unfold upd mid
  by_cases h : j = c
  · rw [if_pos h, if_pos (by omega), h]
  · rw [if_neg h]
    by_cases hl : j < c
    · rw [if_pos hl, if_pos (by omega)]
    · rw [if_neg hl, if_neg (by omega)]
theorem mid_skip {f e : Nat → Rat} {c : Nat} (h : f c = e c) : mid f e c = mid f e (c + 1) := by
  funext j
  unfold mid
  by_cases hj : j = c
  · rw [if_neg (by omega), if_pos (by omega), hj, h]
  · by_cases hl : j < c
    · rw [if_pos hl, if_pos (by omega)]
    · rw [if_neg hl, if_neg (by omega)]
theorem mid_end {f e : Nat → Rat} {c j : Nat} (h : j < c) : mid f e c j = f j := if_pos h
theorem upd_upd {α : Type} {g : Nat → α} {i : Nat} {x y : α} : upd (upd g i x) i y = upd g i y := by
  funext j
  unfold upd
  split <;> rfl
/-- What is left of the row i, when the row p is taken from it v times. -/
def clr (g : Nat → Nat → Rat) (i p : Nat) (v : Rat) (c : Nat) : Rat := g i c - v * g p c
theorem clear_l66 {ι : Nat → Nat} {g : Nat → Nat → Rat} {h w b b' i p : Nat} {v : Rat} (hg : ∀ c, c < w → Bd b (g i c)) (hp' : ∀ c, c < w → Bd b' (g p c)) (hv : Bd b v) (hb : b + b + b' ≤ 1073741824) (hw : w ≤ 1000) (hi : i < h) (hp : p < h) (hne : p ≠ i) (K : Nat) : ∀ (t c k : Nat) (pool : List (List Rat)), c + t = w → t < k → Rep ι pool (upd g i (mid (clr g i p v) (g i) c)) h w →
    ∃ pool', Rep ι pool' (upd g i (clr g i p v)) h w ∧ F_matrix_reduce_1_l66 K (i : Int) (p : Int) v k (mp ι h) pool (c : Int) = some (mp ι h, pool')
  | 0, c, k, pool, hc, hk, r => by
    have : c = w := by omega
    subst this
    obtain ⟨k', rfl, _⟩ := fuel hk
    refine ⟨pool, r.congr fun j x hj hx => ?_, ?_⟩
    · by_cases he : j = i
      · rw [he, upd_same, upd_same, mid_end hx]
      · rw [upd_ne he, upd_ne he]
    · simp only [F_matrix_reduce_1_l66, rdMp (f := ι) hi, oB, r.el i hi, mp_len, dF (show ¬ (c : Int) < (c : Int) by omega), cF0]
  | t + 1, c, k, pool, hc, hk, r => by
    obtain ⟨k', rfl, _⟩ := fuel hk
    have hcw : c < w := by omega
    have e1 := r.el i hi
    rw [upd_same] at e1
    have e2 := r.el p hp
    rw [upd_ne hne] at e2
    simp only [F_matrix_reduce_1_l66, rdMp (f := ι) hi, rdMp (f := ι) hp, oB, e1, e2, mp_len, dT (show (c : Int) < (w : Int) by omega), cT0, rdMp (f := g p) hcw, qsgn_ok (hp' c hcw) (by omega)]
    by_cases hz : g p c = 0
    · simp only [nF (sgn0.2 hz), cF0, ckS (i := c) (by omega), oB]
      refine clear_l66 hg hp' hv hb hw hi hp hne K t (c + 1) k' pool (by omega) (by omega) ?_
      rw [← mid_skip (show clr g i p v c = g i c by unfold clr; rw [hz]; grind)]
      exact r
    · have r' := r.set hi (upd (mid (clr g i p v) (g i) c) c (clr g i p v c))
      rw [upd_upd, mid_next] at r'
      obtain ⟨pool', h1, h2⟩ := clear_l66 hg hp' hv hb hw hi hp hne K t (c + 1) k' _ (by omega) (by omega) r'
      refine ⟨pool', h1, ?_⟩
      simp only [nT (fun h => hz (sgn0.1 h)), cT0, rdMp (f := mid (clr g i p v) (g i) c) hcw, mid_at, qmul_ok hv (hp' c hcw) (by omega) (by omega), qsub_ok (hg c hcw) (hv.mul (hp' c hcw)) (by omega) (by omega), oB, stMp (f := mid (clr g i p v) (g i) c) hcw, ckS (i := c) (by omega)]
      rw [← mid_next] at h2
      exact h2
theorem clear_ok {ι : Nat → Nat} {pool : List (List Rat)} {g : Nat → Nat → Rat} {h w b b' i p c0 : Nat} {ps : List Int} {d : Rat} (hg : ∀ c, c < w → Bd b (g i c)) (hp' : ∀ c, c < w → Bd b' (g p c)) (hb : b + b + b' ≤ 1073741824) (hw : w ≤ 1000) (hi : i < h) (hp : p < h) (hc : c0 < w) (hne : p ≠ i) (hz : ∀ c, c < c0 → g p c = 0) {K : Nat} (hK : w < K) (r : Rep ι pool g h w) :
    ∃ pool', Rep ι pool' (upd g i (clr g i p (g i c0))) h w ∧ F_matrix_reduce_1 K ((mp ι h, pool), ps, d) (i : Int) (p : Int) (c0 : Int) = some ((mp ι h, pool'), ps, d) := by
  by_cases h0 : g i c0 = 0
  · refine ⟨pool, r.congr fun j x hj hx => ?_, ?_⟩
    · by_cases he : j = i
      · rw [he, upd_same]; unfold clr; rw [h0]; grind
      · rw [upd_ne he]
    · simp only [F_matrix_reduce_1, rdMp (f := ι) hi, oB, r.el i hi, rdMp (f := g i) hc, qsgn_ok (hg c0 hc) (by omega), qT (sgn0.2 h0), cT0]
  · have e0 : mid (clr g i p (g i c0)) (g i) c0 = g i := by
      funext j
      unfold mid
      split
      · rename_i hj
        unfold clr
        rw [hz j hj]; grind
      · rfl
    obtain ⟨pool', h1, h2⟩ := clear_l66 (v := g i c0) hg hp' (hg c0 hc) hb hw hi hp hne K (w - c0) c0 K pool (by omega) (by omega) (by
      rw [e0]
      exact r.congr fun j x hj hx => by
        by_cases he : j = i
        · rw [he, upd_same]
        · rw [upd_ne he])
    refine ⟨pool', h1, ?_⟩
    simp only [F_matrix_reduce_1, rdMp (f := ι) hi, oB, r.el i hi, rdMp (f := g i) hc, qsgn_ok (hg c0 hc) (by omega), qF (fun h => h0 (sgn0.1 h)), cF0, h2, F_matrix_reduce_1_j67]
/-- The row p divided. -/
theorem divide_l196 {ι : Nat → Nat} {g : Nat → Nat → Rat} {h w b : Nat} {ps : List Nat} {v : Rat} (hg : ∀ c, c < w → Bd b (g ps.length c)) (hv : Bd b v) (hb : b ≤ 1073741824) (hw : w ≤ 1000) (hp : ps.length < h) (K : Nat) : ∀ (t c k : Nat) (pool : List (List Rat)), c + t = w → t < k → Rep ι pool (upd g ps.length (mid (fun c => g ps.length c / v) (g ps.length) c)) h w →
    ∃ pool', Rep ι pool' (upd g ps.length (fun c => g ps.length c / v)) h w ∧ F_matrix_reduce_l196 K (ints ps) v k (mp ι h) pool (c : Int) = some (mp ι h, pool')
  | 0, c, k, pool, hc, hk, r => by
    have : c = w := by omega
    subst this
    obtain ⟨k', rfl, _⟩ := fuel hk
    refine ⟨pool, r.congr fun j x hj hx => ?_, ?_⟩
    · by_cases he : j = ps.length
      · rw [he, upd_same, upd_same, mid_end hx]
      · rw [upd_ne he, upd_ne he]
    · simp only [F_matrix_reduce_l196, ints_len, rdMp (f := ι) hp, oB, r.el _ hp, mp_len, dF (show ¬ (c : Int) < (c : Int) by omega), cF0]
  | t + 1, c, k, pool, hc, hk, r => by
    obtain ⟨k', rfl, _⟩ := fuel hk
    have hcw : c < w := by omega
    have e1 := r.el _ hp
    rw [upd_same] at e1
    have r' := r.set hp (upd (mid (fun c => g ps.length c / v) (g ps.length) c) c (g ps.length c / v))
    rw [upd_upd, mid_next (f := fun c => g ps.length c / v)] at r'
    obtain ⟨pool', h1, h2⟩ := divide_l196 hg hv hb hw hp K t (c + 1) k' _ (by omega) (by omega) r'
    refine ⟨pool', h1, ?_⟩
    simp only [F_matrix_reduce_l196, ints_len, rdMp (f := ι) hp, oB, e1, mp_len, dT (show (c : Int) < (w : Int) by omega), cT0, rdMp (f := mid (fun c => g ps.length c / v) (g ps.length) c) hcw, mid_at, qdiv_ok (hg c hcw) hv hb hb, stMp (f := mid (fun c => g ps.length c / v) (g ps.length) c) hcw, ckS (i := c) (by omega)]
    rw [← mid_next] at h2
    exact h2
/-- All rows but p cleared, up to the row i. -/
def els (g : Nat → Nat → Rat) (p c0 i j c : Nat) : Rat := if j < i ∧ j ≠ p then g j c - g j c0 * g p c else g j c
theorem elim_l257 {ι : Nat → Nat} {g : Nat → Nat → Rat} {h w b b' c0 : Nat} {ps : List Nat} {d : Rat} (hg : ∀ j c, j < h → j ≠ ps.length → c < w → Bd b (g j c)) (hp' : ∀ c, c < w → Bd b' (g ps.length c)) (hb : b + b + b' ≤ 1073741824) (hw : w ≤ 1000) (hh : h ≤ 1000) (hp : ps.length < h) (hc : c0 < w) (hz : ∀ c, c < c0 → g ps.length c = 0) {K : Nat} (hK : w < K) : ∀ (t i k : Nat) (pool : List (List Rat)), i + t = h → t < k → Rep ι pool (els g ps.length c0 i) h w →
    ∃ pool', Rep ι pool' (els g ps.length c0 h) h w ∧ F_matrix_reduce_l257 K (ints ps) (c0 : Int) (mp ι h) k (ints ps) (mp ι h) pool d (i : Int) = some (ints ps, mp ι h, pool', d)
  | 0, i, k, pool, hi, hk, r => by
    have : i = h := by omega
    subst this
    obtain ⟨k', rfl, _⟩ := fuel hk
    exact ⟨pool, r, by simp only [F_matrix_reduce_l257, mp_len, dF (show ¬ (i : Int) < (i : Int) by omega), cF0]⟩
  | t + 1, i, k, pool, hi, hk, r => by
    obtain ⟨k', rfl, _⟩ := fuel hk
    have hih : i < h := by omega
    by_cases he : i = ps.length
    · have e : els g ps.length c0 i = els g ps.length c0 (i + 1) := by
        funext j c
        unfold els
        by_cases hj : j = ps.length
        · rw [if_neg (by omega), if_neg (by omega)]
        · by_cases hl : j < i
          · rw [if_pos ⟨hl, hj⟩, if_pos ⟨by omega, hj⟩]
          · rw [if_neg (by omega), if_neg (by omega)]
      rw [e] at r
      obtain ⟨pool', h1, h2⟩ := elim_l257 hg hp' hb hw hh hp hc hz hK t (i + 1) k' pool (by omega) (by omega) r
      refine ⟨pool', h1, ?_⟩
      simp only [F_matrix_reduce_l257, mp_len, dT (show (i : Int) < (h : Int) by omega), cT0, ints_len, nF (show (i : Int) = (ps.length : Int) by omega), cF0, ckS (i := i) (by omega), oB]
      exact h2
    · have e1 : els g ps.length c0 i i = g i := by funext c; unfold els; rw [if_neg (by omega)]
      have e2 : els g ps.length c0 i ps.length = g ps.length := by funext c; unfold els; rw [if_neg (by omega)]
      obtain ⟨p1, r1, q1⟩ := clear_ok (ps := ints ps) (d := d) (g := els g ps.length c0 i) (i := i) (p := ps.length) (c0 := c0) (b := b) (b' := b') (by rw [e1]; exact fun c hc => hg i c hih he hc) (by rw [e2]; exact hp') hb hw hih hp hc (fun h => he h.symm) (by rw [e2]; exact hz) hK r
      have e : upd (els g ps.length c0 i) i (clr (els g ps.length c0 i) i ps.length (els g ps.length c0 i i c0)) = els g ps.length c0 (i + 1) := by
        funext j c
        by_cases hj : j = i
        · rw [hj, upd_same]
          unfold clr
          rw [e1, e2]
          unfold els
          rw [if_pos ⟨by omega, he⟩]
        · rw [upd_ne hj]
          unfold els
          by_cases hl : j < i ∧ j ≠ ps.length
          · rw [if_pos hl, if_pos ⟨by omega, hl.2⟩]
          · rw [if_neg hl, if_neg (by omega)]
      rw [e] at r1
      obtain ⟨pool', h1, h2⟩ := elim_l257 hg hp' hb hw hh hp hc hz hK t (i + 1) k' p1 (by omega) (by omega) r1
      refine ⟨pool', h1, ?_⟩
      simp only [F_matrix_reduce_l257, mp_len, dT (show (i : Int) < (h : Int) by omega), cT0, ints_len, nT (show (i : Int) ≠ (ps.length : Int) by omega), q1, ckS (i := i) (by omega), oB]
      exact h2
theorem pivot_l3 {g : Nat → Nat → Rat} {h w b c n : Nat} (hg : Bdx h w b g) (hb : b ≤ 1073741824) (hh : h ≤ 1000) (hc : c < w) (hn : n ≤ h) (K : Nat) : ∀ (t i k : Nat), n + i + t = h → t < k → F_slices_IndexFunc_Rat_l3 K (mp (fun j => mp (g (n + j)) w) (h - n)) (F_matrix_reduce_2 (c : Int)) k (i : Int) = some (if piv g c t (n + i) = h then .go () else .ret ((piv g c t (n + i) : Int) - n))
  | 0, i, k, hi, hk => by
    obtain ⟨k', rfl, _⟩ := fuel hk
    have e : piv g c 0 (n + i) = h := by simp only [piv]; omega
    rw [if_pos e]
    simp only [F_slices_IndexFunc_Rat_l3, mp_len, dF (show ¬ (i : Int) < ((h - n : Nat) : Int) by omega), cF0]
  | t + 1, i, k, hi, hk => by
    obtain ⟨k', rfl, _⟩ := fuel hk
    have hx := hg (n + i) c (by omega) hc
    simp only [F_slices_IndexFunc_Rat_l3, mp_len, dT (show (i : Int) < ((h - n : Nat) : Int) by omega), cT0, rdMp (f := fun j => mp (g (n + j)) w) (show i < h - n by omega), oB, F_matrix_reduce_2, rdMp (f := g (n + i)) hc, qsgn_ok hx hb, piv]
    by_cases hz : g (n + i) c = 0
    · simp only [nF (sgn0.2 hz), cF0, if_pos hz, ckS (i := i) (by omega), oB]
      exact pivot_l3 hg hb hh hc hn K t (i + 1) k' (by omega) (by omega)
    · simp only [nT (fun h => hz (sgn0.1 h)), cT0, if_neg hz, if_neg (show ¬ n + i = h by omega)]
      congr 2
      omega
theorem pivot_ok {g : Nat → Nat → Rat} {h w b c n : Nat} (hg : Bdx h w b g) (hb : b ≤ 1073741824) (hh : h ≤ 1000) (hc : c < w) (hn : n ≤ h) {K : Nat} (hK : h < K) : F_slices_IndexFunc_Rat K (mp (fun j => mp (g (n + j)) w) (h - n)) (F_matrix_reduce_2 (c : Int)) = some (if piv g c (h - n) n = h then -1 else (piv g c (h - n) n : Int) - n) := by
  have := pivot_l3 hg hb hh hc hn K (h - n) 0 K (by omega) (by omega)
  simp only [Int.natCast_zero, Nat.add_zero] at this
  by_cases hat : piv g c (h - n) n = h
  · rw [if_pos hat] at this ⊢
    simp only [F_slices_IndexFunc_Rat, this, oB, F_slices_IndexFunc_Rat_j4]
  · rw [if_neg hat] at this ⊢
    simp only [F_slices_IndexFunc_Rat, this, oB]
theorem reduce_l123 {g : Nat → Nat → Rat} {h w n b : Nat} (hg : Bdx h w b g) (hb : 2 ≤ b) (hn : n ≤ w) (hB : 5 ^ n * b ≤ 200000000) (hh : h ≤ 1000) (hw : w ≤ 1000) {K : Nat} (hK : w + h < K) : ∀ (t i k : Nat) (ι : Nat → Nat) (pool : List (List Rat)), i + t = n → t < k → Rep ι pool (red g h i).g h w →
    ∃ ι' pool', Rep ι' pool' (red g h n).g h w ∧ F_matrix_reduce_l123 K (n : Int) k (ints (red g h i).ps) (mp ι h) pool (red g h i).d (i : Int) = some (ints (red g h n).ps, mp ι' h, pool', (red g h n).d)
  | 0, i, k, ι, pool, hi, hk, r => by
    have : i = n := by omega
    subst this
    obtain ⟨k', rfl, _⟩ := fuel hk
    exact ⟨ι, pool, r, by simp only [F_matrix_reduce_l123, dF (show ¬ (i : Int) < (i : Int) by omega), cF0]⟩
  | t + 1, i, k, ι, pool, hi, hk, r => by
    obtain ⟨k', rfl, _⟩ := fuel hk
    have hs := red_ok hg hb i (by omega)
    have ih := reduce_l123 hg hb hn hB hh hw hK t (i + 1) k'
    have h5 : 5 ^ i * b ≤ 200000000 := Nat.le_trans (pow5_le (by omega)) hB
    simp only [red] at ih
    generalize red g h i = s at *
    have hp := piv_le (g := s.g) (k := i) (h - s.ps.length) s.ps.length
    have hl : s.ps.length + (h - s.ps.length) = h := by have := hs.ph; omega
    have hc : i < w := by omega
    have hsl := slMp (f := fun j => mp (s.g j) w) hs.ph
    simp only [F_matrix_reduce_l123, dT (show (i : Int) < (n : Int) by omega), cT0, ints_len, r.sel, mx_len]
    unfold mx
    simp only [hsl, oB, pivot_ok hs.bd (by omega) hh hc hs.ph (K := K) (by omega)]
    unfold rdStep at ih
    by_cases hat : piv s.g i (h - s.ps.length) s.ps.length = h
    · simp only [if_pos hat] at ih ⊢
      obtain ⟨ι', pool', h1, h2⟩ := ih ι pool (by omega) (by omega) r
      refine ⟨ι', pool', h1, ?_⟩
      simp only [show decide ((-1 : Int) < 0) = true from rfl, cT0, ckS (i := i) (by omega), oB]
      exact h2
    · simp only [if_neg hat] at ih ⊢
      have hlt : piv s.g i (h - s.ps.length) s.ps.length < h := by omega
      have hnz := piv_n (g := s.g) (k := i) (h - s.ps.length) s.ps.length (by omega)
      generalize ha : piv s.g i (h - s.ps.length) s.ps.length = at0 at *
      have hpl : s.ps.length < h := by omega
      have hsb : Bdx h w (5 ^ i * b) (swp s.g s.ps.length at0) := fun j c hj hc => swp_bd hs.bd hpl hlt hj hc
      have hs0 : swp s.g s.ps.length at0 s.ps.length = s.g at0 := by unfold swp; rw [if_pos rfl]
      -- what follows once the rows are exchanged
      have go : ∀ (ι1 : Nat → Nat) (d1 : Rat), Rep ι1 pool (swp s.g s.ps.length at0) h w → Bd (5 ^ i * b) d1 → d1 = (if at0 = s.ps.length then s.d else -s.d) →
          ∃ ι' pool', Rep ι' pool' (red g h n).g h w ∧ F_matrix_reduce_j149 K (ints s.ps) (i : Int) (F_matrix_reduce_l123 K (n : Int) k') (mp ι1 h) pool d1 = some (ints (red g h n).ps, mp ι' h, pool', (red g h n).d) := by
        intro ι1 d1 r1 hd1 ed
        have e1 := r1.el _ hpl
        rw [hs0] at e1
        have hrow : ∀ c, c < w → Bd (5 ^ i * b) (swp s.g s.ps.length at0 s.ps.length c) := fun c hc => hsb _ c hpl hc
        have hz0 : ∀ c, c < i → s.g at0 c = 0 := fun c hc => hs.z at0 c hp.1 hlt hc
        obtain ⟨p2, r2, q2⟩ := divide_l196 (ps := s.ps) (v := s.g at0 i) hrow (hs.bd at0 i hlt hc) (by omega) hw hpl K (w - i) i K pool (by omega) (by omega) (by
          refine r1.congr fun j x hj hx => ?_
          by_cases he : j = s.ps.length
          · rw [he, upd_same]
            unfold mid
            split
            · rename_i hxi
              rw [hs0, hz0 x hxi]; grind
            · rfl
          · rw [upd_ne he])
        -- the rows after the division
        generalize hG : upd (swp s.g s.ps.length at0) s.ps.length (fun c => swp s.g s.ps.length at0 s.ps.length c / s.g at0 i) = G at *
        have G0 : G s.ps.length = pr s.g at0 i := by rw [← hG, upd_same]; funext c; rw [hs0]; rfl
        have G1 : ∀ j, j ≠ s.ps.length → G j = swp s.g s.ps.length at0 j := fun j hj => by rw [← hG, upd_ne hj]
        obtain ⟨p3, r3, q3⟩ := elim_l257 (g := G) (b := 5 ^ i * b) (b' := 5 ^ i * b + 5 ^ i * b) (c0 := i) (ps := s.ps) (d := d1 * s.g at0 i) (fun j c hj hne hc => by rw [G1 j hne]; exact hsb j c hj hc) (fun c hc => by rw [G0]; exact pr_bd hs.bd hlt (by omega) hc) (by omega) hw hh hpl hc (fun c hc => by rw [G0]; unfold pr; rw [hz0 c hc]; grind) (K := K) (by omega) h 0 K p2 (by omega) (by omega) (r2.congr fun j x hj hx => by unfold els; rw [if_neg (by omega)])
        obtain ⟨ι', pool', h1, h2⟩ := ih ι1 p3 (by omega) (by omega) (r3.congr fun j x hj hx => by
          unfold els stp
          by_cases he : j = s.ps.length
          · rw [if_neg (by omega), if_pos he, he, G0]
          · rw [if_pos ⟨hj, he⟩, if_neg he, G0, G1 j he])
        refine ⟨ι', pool', h1, ?_⟩
        simp only [Int.natCast_zero] at q3
        simp only [F_matrix_reduce_j149, ints_len, rdMp (f := ι1) hpl, oB, e1, rdMp (f := s.g at0) hc, qmul_ok hd1 (hs.bd at0 i hlt hc) (by omega) (by omega), q2, F_matrix_reduce_j197, q3, F_matrix_reduce_j258, apI (k := i) (l := s.ps) (by have := hs.ph; omega), ckS (i := i) (by omega)]
        rw [ed]
        exact h2
      by_cases he : at0 = s.ps.length
      · have ew : swp s.g s.ps.length at0 = s.g := by
          funext j
          unfold swp
          split
          · rename_i hj; rw [he, hj]
          · split
            · rename_i h1 h2; exact absurd (h2.trans he) h1
            · rfl
        obtain ⟨ι', pool', h1, h2⟩ := go ι s.d (by rw [ew]; exact r) hs.bdd (by rw [if_pos he])
        refine ⟨ι', pool', h1, ?_⟩
        simp only [dF (show ¬ ((at0 : Int) - (s.ps.length : Int) < 0) by omega), cF0, dF (show ¬ (0 < (at0 : Int) - (s.ps.length : Int)) by omega)]
        exact h2
      · obtain ⟨ι', pool', h1, h2⟩ := go _ (-s.d) (r.swap hpl hlt (fun h => he h.symm)) hs.bdd.neg (by rw [if_neg he])
        refine ⟨ι', pool', h1, ?_⟩
        have e3 : chk ((s.ps.length : Int) + ((at0 : Int) - (s.ps.length : Int))) = some (at0 : Int) := ckN (m := 0) (n := at0) (by omega) (by omega)
        simp only [dF (show ¬ ((at0 : Int) - (s.ps.length : Int) < 0) by omega), cF0, dT (show (0 < (at0 : Int) - (s.ps.length : Int)) by omega), cT0, e3, oB, rdMp (f := ι) hlt, rdMp (f := ι) hpl, stMp (f := ι) hpl, rdMp (f := upd ι s.ps.length (ι at0)) hlt, stMp (f := upd ι s.ps.length (ι at0)) hlt, qneg_ok hs.bdd (by omega)]
        exact h2
theorem reduce_l62 {g : Nat → Nat → Rat} {h w : Nat} (hh : h ≤ 1000) (hw : w ≤ 1000) (K : Nat) : ∀ (t i k : Nat), i + t = h → t < k → F_matrix_reduce_l62 K (mx g h w) k (mp id i) (mp (fun i => mp (g i) w) i) (i : Int) = some (mp id h, mx g h w)
  | 0, i, k, hi, hk => by
    have : i = h := by omega
    subst this
    obtain ⟨k', rfl, _⟩ := fuel hk
    simp only [F_matrix_reduce_l62, mx_len, dF (show ¬ (i : Int) < (i : Int) by omega), cF0]
    rfl
  | t + 1, i, k, hi, hk => by
    obtain ⟨k', rfl, _⟩ := fuel hk
    have e2 : apL ([] : List Rat) (mp (g i) w) = some (mp (g i) w) := by rw [apL_ok (by rw [mp_len, List.length_nil]; omega), List.nil_append]
    have e3 := apM (g := (id : Nat → Nat)) (i := i) (by omega)
    simp only [id] at e3
    simp only [F_matrix_reduce_l62, mx_len, dT (show (i : Int) < (h : Int) by omega), cT0, rdMx (g := g) (w := w) (show i < h by omega), oB, F_slices_Clone_Rat, e2, mp_len, ckS (i := i) (by omega)]
    have e4 : apL (mp id i) [i] = some (mp id (i + 1)) := apM (g := (id : Nat → Nat)) (i := i) (by omega)
    rw [e4]
    simp only [oB]
    rw [← mp_succ (fun i => mp (g i) w) i]
    exact reduce_l62 hh hw K t (i + 1) k' (by omega) (by omega)
theorem qof11 : qof 1 1 = some 1 := by rw [qof_ok (by omega) (by omega), one_is]
theorem reduce_ok {g : Nat → Nat → Rat} {h w n b : Nat} (hg : Bdx h w b g) (hb : 2 ≤ b) (hn : n ≤ w) (hB : 5 ^ n * b ≤ 200000000) (hh : h ≤ 1000) (hw : w ≤ 1000) {K : Nat} (hK : w + h < K) : F_matrix_reduce K (mx g h w) (n : Int) = some ⟨mx (red g h n).g h w, ints (red g h n).ps, (red g h n).d⟩ := by
  have h1 := reduce_l62 (g := g) hh hw K h 0 K (by omega) (by omega)
  have r0 : Rep id (mx g h w) g h w := ⟨fun i j _ _ e => e, fun i hi => by rw [mx_len]; exact hi, fun i hi => by
    rw [List.getD_eq_getElem?_getD]; unfold mx; rw [mp_get (show id i < h from hi)]; rfl⟩
  obtain ⟨ι', pool', h2, h3⟩ := reduce_l123 hg hb hn hB hh hw hK n 0 K id (mx g h w) (by omega) (by omega) r0
  simp only [Int.natCast_zero, mp_zero] at h1 h3
  have e : ints (red g h 0).ps = [] := rfl
  have e' : (red g h 0).d = 1 := rfl
  rw [e, e'] at h3
  simp only [F_matrix_reduce, qof11, oB, h1, F_matrix_reduce_j63, h3, F_matrix_reduce_j124, h2.sel]
end Go.Proofs.YtkjnngaceacmdaaGreat
