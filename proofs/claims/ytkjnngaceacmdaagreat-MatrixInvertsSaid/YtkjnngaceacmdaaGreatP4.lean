/- What the program's functions on digits compute: scaled, short, Mul. -/
import Derived.Test.YtkjnngaceacmdaaGreatP3
set_option linter.unusedVariables false
namespace Go.Proofs.YtkjnngaceacmdaaGreat

theorem divmod {v : Int} (h : 0 ≤ v) : 0 ≤ v / 1000000000 ∧ 0 ≤ v % 1000000000 ∧ v % 1000000000 < 1000000000 ∧ v % 1000000000 + 1000000000 * (v / 1000000000) = v := by omega
theorem scaled_step {out a : List Int} {i : Nat} {c c' k v : Int} (hl : i < out.length) (hI : W out 0 i + c * PB i = k * W a 0 i) (hv : v + 1000000000 * c' = a.getD i 0 * k + c) :
    W (out.set i v) 0 (i + 1) + c' * PB (i + 1) = k * W a 0 (i + 1) := by
  rw [W_succ, W_succ, Nat.zero_add, getD_set_eq hl, W_set (.inr (by omega))]
  simp only [PB]
  grind
theorem scaled_l33 {a : List Int} {f : Int} (ha : DOk a) (hf0 : 0 ≤ f) (hf1 : f < 1000000000) (hL : a.length ≤ 9000000000000) : ∀ (t i : Nat) (out : List Int) (c : Int), i + t = a.length → out.length = a.length + 1 → Dr out 0 i → 0 ≤ c → c < 1000000000 → W out 0 i + c * PB i = f * W a 0 i →
    ∃ out' c', out'.length = a.length + 1 ∧ Dr out' 0 a.length ∧ 0 ≤ c' ∧ c' < 1000000000 ∧ W out' 0 a.length + c' * PB a.length = f * vD a ∧ ∀ K k, t < k → F_integer_scaled_l33 K a f k out c (i : Int) = some (out', c')
  | 0, i, out, c, hi, ho, hD, hc0, hc1, hI => by
    have : i = a.length := by omega
    subst this
    refine ⟨out, c, ho, hD, hc0, hc1, hI, fun K k hk => ?_⟩
    obtain ⟨k', rfl, _⟩ := fuel hk
    simp [F_integer_scaled_l33]
  | t + 1, i, out, c, hi, ho, hD, hc0, hc1, hI => by
    have ha' := ha i
    have hm := mul_bd ha'.1 ha'.2 hf0 hf1
    obtain ⟨d1, d2, d3, d4⟩ := divmod (v := a.getD i 0 * f + c) (by omega)
    have e1 : decide ((i : Int) < (a.length : Int)) = true := dT (by omega)
    have e2 := rdL_ok (xs := a) (i := i) (by omega)
    have e3 : chk ((i : Int) + 1) = some ((i + 1 : Nat) : Int) := ckN (m := 0) (by omega) (by omega)
    have e4 := rdL_ok (xs := out) (i := i) (by omega)
    have e5 : ∀ v, stL out (i : Int) v = some (out.set i v) := fun v => stL_ok (by omega)
    have e6 : chk (a.getD i 0 * f) = some (a.getD i 0 * f) := ckO (by omega)
    have e7 : chk (a.getD i 0 * f + c) = some (a.getD i 0 * f + c) := ckO (by omega)
    have e8 : chr (a.getD i 0 * f + c) 1000000000 = some ((a.getD i 0 * f + c) % 1000000000) := chr_ok (by omega) (by omega)
    have e9 : chq (a.getD i 0 * f + c) 1000000000 = some ((a.getD i 0 * f + c) / 1000000000) := chq_ok (by omega) (by omega) (by omega)
    obtain ⟨o, d, h1, h2, h3, h4, h5, h6⟩ := scaled_l33 ha hf0 hf1 hL t (i + 1) (out.set i ((a.getD i 0 * f + c) % 1000000000)) ((a.getD i 0 * f + c) / 1000000000) (by omega) (by simpa using ho) (Dr_set hD (by omega) (by omega) (by omega)) (by omega) (by omega) (scaled_step (by omega) hI (by omega))
    refine ⟨o, d, h1, h2, h3, h4, h5, fun K k hk => ?_⟩
    obtain ⟨k', rfl, _⟩ := fuel hk
    simp only [F_integer_scaled_l33, e1, e2, e3, e4, e5, e6, e7, e8, e9, cT0, oB]
    exact h6 K k' (by omega)
theorem scaled_law {a : List Int} {f : Int} (ha : DOk a) (hf0 : 0 ≤ f) (hf1 : f < 1000000000) (hL : a.length ≤ 60000000000) : ∃ r, r.length = a.length + 1 ∧ DOk r ∧ vD r = f * vD a ∧ Ev (fun K => F_integer_scaled K a f) r := by
  obtain ⟨o, c, h1, h2, h3, h4, h5, h6⟩ := scaled_l33 ha hf0 hf1 (by omega) a.length 0 (List.replicate (a.length + 1) 0) 0 (by omega) (by simp) (Dr_rep _ _ _) (by omega) (by omega) (by simp [W])
  have e1 : chk ((a.length : Int) + 1) = some ((a.length + 1 : Nat) : Int) := ckN (m := 0) (by omega) (by omega)
  have e2 : mkL ((a.length + 1 : Nat) : Int) (0 : Int) = some (List.replicate (a.length + 1) 0) := mkL_ok (by omega)
  refine ⟨o.set a.length c, by simpa using h1, Dr.ok ?_, ?_, ⟨a.length + 1, fun K hK => ?_⟩⟩
  · rw [show (o.set a.length c).length = a.length + 1 by simpa using h1]
    exact Dr_set h2 (by omega) (by omega) (by omega)
  · unfold vD at h5 ⊢
    rw [show (o.set a.length c).length = a.length + 1 by simpa using h1, W_succ, Nat.zero_add, getD_set_eq (by omega), W_set (.inr (by omega)), h5]
  · have h6' := h6 K K (by omega)
    simp only [Int.natCast_zero] at h6'
    simp only [F_integer_scaled, e1, e2, oB, h6', F_integer_scaled_j34, rdL_ok (xs := o) (i := a.length) (by omega), stL_ok (xs := o) (i := a.length) (v := c) (by omega)]
/-- The first digit apart. -/
theorem W_head (u : List Int) (j n : Nat) : W u j (n + 1) = u.getD j 0 + 1000000000 * W u (j + 1) n := by
  rw [Nat.add_comm n 1, W_add, W1, show PB 1 = 1000000000 from by decide]
theorem short_l31 {a : List Int} {b : Int} (ha : DOk a) (hb0 : 0 < b) (hb1 : b < 1000000000) (hL : a.length ≤ 9000000000000) : ∀ (j : Nat) (q : List Int) (r : Int), j ≤ a.length → q.length = a.length → Dr q j (a.length - j) → 0 ≤ r → r < b → W a j (a.length - j) = b * W q j (a.length - j) + r →
    ∃ q' r', q'.length = a.length ∧ DOk q' ∧ 0 ≤ r' ∧ r' < b ∧ vD a = b * vD q' + r' ∧ ∀ K k, j < k → F_integer_short_l31 K a b k q r ((j : Int) - 1) = some (q', r')
  | 0, q, r, hj, hq, hD, hr0, hr1, hI => by
    refine ⟨q, r, hq, Dr.ok (by rw [hq]; simpa using hD), hr0, hr1, ?_, fun K k hk => ?_⟩
    · simp only [Nat.sub_zero] at hI
      unfold vD
      rw [hq]; exact hI
    · obtain ⟨k', rfl, _⟩ := fuel hk
      simp [F_integer_short_l31]
  | j + 1, q, r, hj, hq, hD, hr0, hr1, hI => by
    have ha' := ha j
    have e0 : ((j + 1 : Nat) : Int) - 1 = (j : Int) := by omega
    have e1 : decide (0 ≤ (j : Int)) = true := dT (by omega)
    have e2 := rdL_ok (xs := a) (i := j) (by omega)
    have e3 : chk ((j : Int) - 1) = some ((j : Int) - 1) := ckO (by omega)
    have e4 := rdL_ok (xs := q) (i := j) (by omega)
    have e5 : ∀ v, stL q (j : Int) v = some (q.set j v) := fun v => stL_ok (by omega)
    have e6 : chk (r * 1000000000) = some (r * 1000000000) := ckO (by omega)
    have e7 : chk (r * 1000000000 + a.getD j 0) = some (r * 1000000000 + a.getD j 0) := ckO (by omega)
    have e8 : chr (r * 1000000000 + a.getD j 0) b = some ((r * 1000000000 + a.getD j 0) % b) := chr_ok (by omega) hb0
    have e9 : chq (r * 1000000000 + a.getD j 0) b = some ((r * 1000000000 + a.getD j 0) / b) := chq_ok (by omega) hb0 (by omega)
    have hq0 : 0 ≤ (r * 1000000000 + a.getD j 0) / b := Int.ediv_nonneg (by omega) (by omega)
    have hq1 : (r * 1000000000 + a.getD j 0) / b < 1000000000 := Int.ediv_lt_of_lt_mul hb0 (by
      have : (r + 1) * 1000000000 ≤ b * 1000000000 := Int.mul_le_mul_of_nonneg_right (by omega) (by omega)
      rw [Int.mul_comm 1000000000 b]
      omega)
    have hm0 := Int.emod_nonneg (r * 1000000000 + a.getD j 0) (show b ≠ 0 by omega)
    have hm1 := Int.emod_lt_of_pos (r * 1000000000 + a.getD j 0) hb0
    have hdm := Int.mul_ediv_add_emod (r * 1000000000 + a.getD j 0) b
    have es : a.length - j = (a.length - (j + 1)) + 1 := by omega
    obtain ⟨q', r', h1, h2, h3, h4, h5, h6⟩ := short_l31 ha hb0 hb1 hL j (q.set j ((r * 1000000000 + a.getD j 0) / b)) ((r * 1000000000 + a.getD j 0) % b) (by omega) (by simpa using hq)
      (fun i hi => by
        by_cases e : i = 0
        · subst e; rw [Nat.add_zero, getD_set_eq (by omega)]; exact ⟨hq0, hq1⟩
        · rw [getD_set_ne (by omega)]
          have := hD (i - 1) (by omega)
          rwa [show j + 1 + (i - 1) = j + i by omega] at this) hm0 hm1 (by
        rw [es, W_head, W_head, getD_set_eq (by omega), W_set (.inl (by omega)), hI]
        grind)
    refine ⟨q', r', h1, h2, h3, h4, h5, fun K k hk => ?_⟩
    obtain ⟨k', rfl, _⟩ := fuel hk
    rw [e0]
    simp only [F_integer_short_l31, e1, e2, e3, e4, e5, e6, e7, e8, e9, cT0, oB]
    exact h6 K k' (by omega)
theorem short_law {a : List Int} {b : Int} (ha : DOk a) (hb0 : 0 < b) (hb1 : b < 1000000000) (hL : a.length ≤ 60000000000) : ∃ q r, q.length = a.length ∧ DOk q ∧ vD q = vD a / b ∧ r = vD a % b ∧ Ev (fun K => F_integer_short K a b) (q, r) := by
  obtain ⟨q, r, h1, h2, h3, h4, h5, h6⟩ := short_l31 ha hb0 hb1 (by omega) a.length (List.replicate a.length 0) 0 (Nat.le_refl _) (by simp) (Dr_rep _ _ _) (by omega) hb0 (by simp [W])
  have e1 : mkL (a.length : Int) (0 : Int) = some (List.replicate a.length 0) := mkL_ok (by omega)
  have e2 : chk ((a.length : Int) - 1) = some ((a.length : Int) - 1) := ckO (by omega)
  refine ⟨q, r, h1, h2, ?_, ?_, ⟨a.length + 1, fun K hK => ?_⟩⟩
  · rw [h5, Int.add_comm, Int.add_mul_ediv_left _ _ (by omega), Int.ediv_eq_zero_of_lt h3 h4, Int.zero_add]
  · rw [h5, Int.add_comm, Int.add_mul_emod_self_left, Int.emod_eq_of_lt h3 h4]
  · have h6' := h6 K K (by omega)
    simp only [F_integer_short, e1, e2, oB, h6', F_integer_short_j32]
theorem mul_step {out o0 b : List Int} {i k : Nat} {c c' f v : Int} (hl : i + k < out.length) (hI : W out i k + c * PB k = W o0 i k + f * W b 0 k) (hv : v + 1000000000 * c' = o0.getD (i + k) 0 + f * b.getD k 0 + c) :
    W (out.set (i + k) v) i (k + 1) + c' * PB (k + 1) = W o0 i (k + 1) + f * W b 0 (k + 1) := by
  rw [W_succ, W_succ, W_succ, getD_set_eq hl, W_set (.inr (by omega)), Nat.zero_add]
  simp only [PB]
  grind
/-- What a row of the product leaves. -/
structure RowP (o0 b : List Int) (i : Nat) (f : Int) (out : List Int) (c : Int) (k : Nat) : Prop where
  len : out.length = o0.length
  ok : DOk out
  c0 : 0 ≤ c
  c1 : c < 1000000000
  same : ∀ s, s < i ∨ i + k ≤ s → out.getD s 0 = o0.getD s 0
  val : W out i k + c * PB k = W o0 i k + f * W b 0 k
theorem DOk.set {u : List Int} {i : Nat} {v : Int} (h : DOk u) (h0 : 0 ≤ v) (h1 : v < 1000000000) : DOk (u.set i v) := fun t => by
  rw [getD_set]; split
  · exact ⟨h0, h1⟩
  · exact h t
theorem RowP.step {o0 b out : List Int} {i k : Nat} {f c : Int} (h : RowP o0 b i f out c k) (hl : i + k < o0.length) (hf0 : 0 ≤ f) (hf1 : f < 1000000000) (hb : DOk b) :
    0 ≤ out.getD (i + k) 0 + f * b.getD k 0 + c ∧ out.getD (i + k) 0 + f * b.getD k 0 + c ≤ 999999999999999999 ∧ 0 ≤ f * b.getD k 0 ∧ f * b.getD k 0 ≤ 999999998000000001 ∧ 0 ≤ out.getD (i + k) 0 ∧ out.getD (i + k) 0 < 1000000000 ∧
    RowP o0 b i f (out.set (i + k) ((out.getD (i + k) 0 + f * b.getD k 0 + c) % 1000000000)) ((out.getD (i + k) 0 + f * b.getD k 0 + c) / 1000000000) (k + 1) := by
  have hb' := hb k
  have hm := mul_bd hf0 hf1 hb'.1 hb'.2
  have ho := h.ok (i + k)
  have c0 := h.c0
  have c1 := h.c1
  obtain ⟨d1, d2, d3, d4⟩ := divmod (v := out.getD (i + k) 0 + f * b.getD k 0 + c) (by omega)
  have he := h.same (i + k) (.inr (Nat.le_refl _))
  refine ⟨by omega, by omega, hm.1, hm.2, ho.1, ho.2, by simpa using h.len, h.ok.set d2 d3, d1, by omega, fun s hs => ?_, by exact mul_step (by have := h.len; omega) h.val (by omega)⟩
  rw [getD_set_ne (by omega)]
  exact h.same s (by omega)
theorem Mul_l73 {o0 : List Int} {y : GInt} {i : Nat} {f : Int} (hb : DOk y.d) (hf0 : 0 ≤ f) (hf1 : f < 1000000000) (hl : i + y.d.length ≤ o0.length) (hL : o0.length ≤ 9000000000000) : ∀ (t k : Nat) (out : List Int) (c : Int), k + t = y.d.length → RowP o0 y.d i f out c k →
    ∃ out' c', RowP o0 y.d i f out' c' y.d.length ∧ ∀ K n, t < n → F_integer_Mul_l73 K y (i : Int) f n out c (k : Int) = some (out', c')
  | 0, k, out, c, hk, hP => by
    have : k = y.d.length := by omega
    subst this
    refine ⟨out, c, hP, fun K n hn => ?_⟩
    obtain ⟨n', rfl, _⟩ := fuel hn
    simp [F_integer_Mul_l73]
  | t + 1, k, out, c, hk, hP => by
    obtain ⟨g1, g2, g3, g4, g5, g6, g7⟩ := hP.step (by omega) hf0 hf1 hb
    have c0 := hP.c0
    have c1 := hP.c1
    have hlo := hP.len
    generalize hv : out.getD (i + k) 0 + f * y.d.getD k 0 + c = v at *
    have e1 : decide ((k : Int) < (y.d.length : Int)) = true := dT (by omega)
    have e2 := rdL_ok (xs := y.d) (i := k) (by omega)
    have e3 : chk ((k : Int) + 1) = some ((k + 1 : Nat) : Int) := ckN (m := 0) (by omega) (by omega)
    have e4 : chk ((i : Int) + (k : Int)) = some ((i + k : Nat) : Int) := ckN (m := 0) (by omega) (by omega)
    have e5 := rdL_ok (xs := out) (i := i + k) (by omega)
    have e6 : chk (f * y.d.getD k 0) = some (f * y.d.getD k 0) := ckO (by omega)
    have e7 : chk (out.getD (i + k) 0 + f * y.d.getD k 0) = some (out.getD (i + k) 0 + f * y.d.getD k 0) := ckO (by omega)
    have e8 : chk (out.getD (i + k) 0 + f * y.d.getD k 0 + c) = some v := by rw [hv]; exact ckO (by omega)
    have e9 : chq v 1000000000 = some (v / 1000000000) := chq_ok (by omega) (by omega) (by omega)
    have e10 : chk (v / 1000000000 * 1000000000) = some (v / 1000000000 * 1000000000) := ckO (by omega)
    have e11 : chk (v - v / 1000000000 * 1000000000) = some (v % 1000000000) := by
      rw [show v - v / 1000000000 * 1000000000 = v % 1000000000 by omega]; exact ckO (by omega)
    have e12 : stL out ((i + k : Nat) : Int) (v % 1000000000) = some (out.set (i + k) (v % 1000000000)) := stL_ok (by omega)
    obtain ⟨o, d, h1, h2⟩ := Mul_l73 hb hf0 hf1 hl hL t (k + 1) _ _ (by omega) g7
    refine ⟨o, d, h1, fun K n hn => ?_⟩
    obtain ⟨n', rfl, _⟩ := fuel hn
    simp only [F_integer_Mul_l73, e1, e2, e3, e4, e5, e6, e7, e8, e9, e10, e11, e12, cT0, oB]
    exact h2 K n' (by omega)
/-- What the rows of the product leave. -/
structure MulP (a b out : List Int) (i : Nat) : Prop where
  len : out.length = a.length + b.length
  ok : DOk out
  zero : ∀ s, i + b.length ≤ s → out.getD s 0 = 0
  val : W out 0 (i + b.length) = W a 0 i * vD b
theorem MulP.start (a b : List Int) : MulP a b (List.replicate (a.length + b.length) 0) 0 where
  len := by simp
  ok := fun i => by simp only [List.getD_eq_getElem?_getD, List.getElem?_replicate]; split <;> simp
  zero := fun s _ => by simp only [List.getD_eq_getElem?_getD, List.getElem?_replicate]; split <;> simp
  val := by
    rw [W_zeros]
    · simp [W]
    · intro i _; simp only [List.getD_eq_getElem?_getD, List.getElem?_replicate]; split <;> simp
theorem MulP.row {a b out : List Int} {i : Nat} (h : MulP a b out i) : RowP out b i (a.getD i 0) out 0 0 where
  len := rfl
  ok := h.ok
  c0 := Int.le_refl _
  c1 := by decide
  same := fun _ _ => rfl
  val := by simp [W]
theorem MulP.next {a b out out' : List Int} {i : Nat} {c : Int} (h : MulP a b out i) (hi : i < a.length) (hr : RowP out b i (a.getD i 0) out' c b.length) : MulP a b (out'.set (i + b.length) c) (i + 1) where
  len := by simpa using hr.len.trans h.len
  ok := hr.ok.set hr.c0 hr.c1
  zero := fun s hs => by
    rw [getD_set_ne (by omega), hr.same s (by omega)]
    exact h.zero s (by omega)
  val := by
    have hlen := hr.len.trans h.len
    rw [show i + 1 + b.length = (i + b.length) + 1 by omega, W_succ, Nat.zero_add, getD_set_eq (by omega), W_set (.inr (by omega)), W_add, W_succ, Nat.zero_add]
    have h1 := hr.val
    have h2 := h.val
    rw [W_add, Nat.zero_add] at h2
    have h3 : W out' 0 i = W out 0 i := W_ext fun s hs => by
      rw [Nat.zero_add]; exact hr.same s (.inl hs)
    rw [h3, PB_add]
    unfold vD at *
    grind
theorem Mul_l43 {x y : GInt} (ha : DOk x.d) (hb : DOk y.d) (hL : x.d.length + y.d.length ≤ 9000000000000) : ∀ (t i : Nat) (out : List Int), i + t = x.d.length → MulP x.d y.d out i →
    ∃ out', MulP x.d y.d out' x.d.length ∧ Ev2 (fun K k => F_integer_Mul_l43 K x y k out (i : Int)) out'
  | 0, i, out, hi, hP => by
    have : i = x.d.length := by omega
    subst this
    refine ⟨out, hP, Ev2.of 1 fun K n hn => ?_⟩
    obtain ⟨n', rfl, _⟩ := fuel (n := 0) hn
    simp [F_integer_Mul_l43]
  | t + 1, i, out, hi, hP => by
    have ha' := ha i
    have hlo := hP.len
    obtain ⟨o, c, h1, h2⟩ := Mul_l73 hb ha'.1 ha'.2 (by omega) (by omega) y.d.length 0 out 0 (by omega) hP.row
    have hlo2 := h1.len
    obtain ⟨r, h3, h4⟩ := Mul_l43 ha hb hL t (i + 1) _ (by omega) (hP.next (by omega) h1)
    refine ⟨r, h3, Ev2.step ?_⟩
    have e1 : decide ((i : Int) < (x.d.length : Int)) = true := dT (by omega)
    have e2 := rdL_ok (xs := x.d) (i := i) (by omega)
    have e3 : chk ((i : Int) + 1) = some ((i + 1 : Nat) : Int) := ckN (m := 0) (by omega) (by omega)
    have e4 : chk ((i : Int) + (y.d.length : Int)) = some ((i + y.d.length : Nat) : Int) := ckN (m := 0) (by omega) (by omega)
    have e5 := rdL_ok (xs := o) (i := i + y.d.length) (by omega)
    have e6 : stL o ((i + y.d.length : Nat) : Int) c = some (o.set (i + y.d.length) c) := stL_ok (by omega)
    simp only [F_integer_Mul_l43, e1, e2, cT0, oB]
    refine Ev2.bind (x := (o, c)) (f := fun K => F_integer_Mul_l73 K y (i : Int) (x.d.getD i 0) K out 0 0) ⟨y.d.length + 1, fun K hK => h2 K K (by omega)⟩ ?_
    simp only [F_integer_Mul_j74, e3, e4, e5, e6, oB]
    exact h4
theorem sgn_mul (x y : Int) : (if (decide (x < 0) != decide (y < 0)) = true then -((x.natAbs : Int) * y.natAbs) else (x.natAbs : Int) * y.natAbs) = x * y := by
  by_cases hx : x < 0 <;> by_cases hy : y < 0
  · rw [dT hx, dT hy, show (x.natAbs : Int) = -x by omega, show (y.natAbs : Int) = -y by omega]; simp [Int.neg_mul_neg]
  · rw [dT hx, dF hy, show (x.natAbs : Int) = -x by omega, show (y.natAbs : Int) = y by omega]; simp [Int.neg_mul]
  · rw [dF hx, dT hy, show (x.natAbs : Int) = x by omega, show (y.natAbs : Int) = -y by omega]; simp [Int.mul_neg]
  · rw [dF hx, dF hy, show (x.natAbs : Int) = x by omega, show (y.natAbs : Int) = y by omega]; simp
theorem Mul_core {x y : Int} (hL : dl x.natAbs + dl y.natAbs ≤ 60000000000) : Ev (fun K => (chk (((Z x).d.length : Int) + ((Z y).d.length : Int))).bind fun v16 => (mkL v16 0).bind fun x18 => (F_integer_Mul_l43 K (Z x) (Z y) K x18 0).bind fun x37 => F_integer_Mul_j44 K (Z x) (Z y) x37) (Z (x * y)) := by
  have dx := digs_DOk x.natAbs
  have dy := digs_DOk y.natAbs
  have lx : (digs x.natAbs).length = dl x.natAbs := rfl
  have ly : (digs y.natAbs).length = dl y.natAbs := rfl
  obtain ⟨r, h1, h2⟩ := Mul_l43 (x := Z x) (y := Z y) dx dy (by rw [Z_len, Z_len]; omega) (Z x).d.length 0 _ (by omega) (MulP.start _ _)
  have e1 : chk (((Z x).d.length : Int) + ((Z y).d.length : Int)) = some (((Z x).d.length + (Z y).d.length : Nat) : Int) := ckN (m := 0) (by omega) (by rw [Z_len, Z_len]; omega)
  have e2 : mkL (((Z x).d.length + (Z y).d.length : Nat) : Int) (0 : Int) = some (List.replicate ((Z x).d.length + (Z y).d.length) 0) := mkL_ok (by rw [Z_len, Z_len]; omega)
  simp only [e1, e2, oB]
  refine Ev.bind h2.ev ?_
  have h3 := of_law ((Z x).neg != (Z y).neg) h1.ok (by rw [h1.len, Z_len, Z_len]; omega)
  unfold F_integer_Mul_j44
  refine Ev.bind h3 ?_
  have hv : vD r = x.natAbs * y.natAbs := by
    have := h1.val
    rw [← h1.len] at this
    have vx := digs_v x.natAbs
    have vy := digs_v y.natAbs
    unfold vD at *
    rw [this]
    show W (digs x.natAbs) 0 (digs x.natAbs).length * W (digs y.natAbs) 0 (digs y.natAbs).length = _
    rw [vx, vy]
  rw [mkG_dec, Z_neg, Z_neg, hv]
  have : (if (decide (x < 0) != decide (y < 0)) = true then -((((x.natAbs : Int) * y.natAbs).toNat : Nat) : Int) else ((((x.natAbs : Int) * y.natAbs).toNat : Nat) : Int)) = x * y := by
    have h0 : 0 ≤ (x.natAbs : Int) * y.natAbs := Int.mul_nonneg (by omega) (by omega)
    rw [Int.toNat_of_nonneg h0]
    exact sgn_mul x y
  rw [this]
  exact Ev.pure _
theorem Mul_same1 (K : Nat) (y : GInt) (x v : Int) : ∀ (k : Nat) (s : List Int) (c i : Int), F_integer_Mul_l169 K y x v k s c i = F_integer_Mul_l73 K y x v k s c i
  | 0, _, _, _ => rfl
  | k + 1, s, c, i => by simp only [F_integer_Mul_l169, F_integer_Mul_l73, Mul_same1 K y x v k]
theorem Mul_same2 (K : Nat) (x y : GInt) : ∀ (k : Nat) (s : List Int) (i : Int), F_integer_Mul_l139 K x y k s i = F_integer_Mul_l43 K x y k s i
  | 0, _, _ => rfl
  | k + 1, s, i => by simp only [F_integer_Mul_l139, F_integer_Mul_l43, F_integer_Mul_j170, F_integer_Mul_j74, Mul_same1, Mul_same2 K x y k]
theorem digs_one {n : Nat} (h : (digs n).length = 1) : (digs n).getD 0 0 = n ∧ n < 1000000000 := by
  have h1 := digs_v n
  unfold vD at h1
  rw [h, W1] at h1
  have := digs_DOk n 0
  omega
theorem Mul_law {x y : Int} (hL : dl x.natAbs + dl y.natAbs ≤ 60000000000) : Ev (fun K => F_integer_Mul K (Z x) (Z y)) (Z (x * y)) := by
  have hc := Mul_core hL
  unfold F_integer_Mul
  by_cases h1 : (Z x).d.length = 1
  · have e1 : (((Z x).d.length : Int) == 1) = true := qT (by omega)
    simp only [e1, cT0]
    by_cases h2 : (Z y).d.length = 1
    · have e2 : (((Z y).d.length : Int) == 1) = true := qT (by omega)
      obtain ⟨a1, a2⟩ := digs_one h1
      obtain ⟨b1, b2⟩ := digs_one h2
      have r1 := rdL_ok (xs := (Z x).d) (i := 0) (by omega)
      have r2 := rdL_ok (xs := (Z y).d) (i := 0) (by omega)
      simp only [Int.natCast_zero] at r1 r2
      rw [Z_d] at r1 r2
      rw [a1] at r1
      rw [b1] at r2
      have hb := mul_bd (x := (x.natAbs : Int)) (y := (y.natAbs : Int)) (by omega) (by omega) (by omega) (by omega)
      have e3 : wu (IntKind.u64.wrap (x.natAbs : Int) * IntKind.u64.wrap (y.natAbs : Int)) = ((x.natAbs * y.natAbs : Nat) : Int) := by
        rw [IntWalk.u64_in _ ⟨by omega, by omega⟩, IntWalk.u64_in _ ⟨by omega, by omega⟩, wu_in hb.1 (by omega), Int.natCast_mul]
      have hb' : x.natAbs * y.natAbs ≤ 18446744073709551615 := by
        have : ((x.natAbs * y.natAbs : Nat) : Int) = x.natAbs * y.natAbs := Int.natCast_mul _ _
        omega
      refine Ev.of fun K => ?_
      rw [Z_d] at e2
      simp only [e2, cT0, r1, r2, Z_d, Z_neg, oB, e3, unsigned_law _ hb']
      rw [mkG_dec]
      congr 2
      rw [Int.natCast_mul]
      exact sgn_mul x y
    · have e2 : (((Z y).d.length : Int) == 1) = false := qF (by omega)
      simp only [e2, cF0]
      exact hc
  · have e1 : (((Z x).d.length : Int) == 1) = false := qF (by omega)
    simp only [e1, cF0, Mul_same2]
    exact hc
end Go.Proofs.YtkjnngaceacmdaaGreat
