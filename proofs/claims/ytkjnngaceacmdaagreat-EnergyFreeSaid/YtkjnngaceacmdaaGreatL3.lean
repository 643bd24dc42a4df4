/- The model that is generated; the sums of package energy. -/
import Derived.Test.YtkjnngaceacmdaaGreatL2
set_option linter.unusedVariables false
namespace Go.Proofs.YtkjnngaceacmdaaGreat

theorem Model_l99 {l : List Int} (hl : I64s l) {v34 : Int} (hv : 1 ≤ v34 ∧ v34 ≤ 3) : ∀ (t i : Nat) (parts : List api_Part) (ropes : List api_Rope) (dofs : List api_Dof) (skip : List (Int × Int)) (x y : Int), i + t = 3 → ModOk (3 * i + 1) ⟨dofs, parts, ropes, skip⟩ → x.natAbs ≤ 20 + 10 * i → 0 ≤ y → y ≤ 10 * i → dofs.length ≤ 7 → (i = 0 → dofs = []) → (0 < i → 2 ≤ parts.length) → 1 ≤ parts.length →
    ∃ p r d s, ModOk 10 ⟨d, p, r, s⟩ ∧ 2 ≤ p.length ∧ d.length ≤ 7 ∧ ∀ K k, t < k → F_gantryref15_Model_l99 K l v34 k parts ropes dofs skip x y (i : Int) = some (p, r, d, s) := by
  intro t
  induction t with
  | zero =>
    intro i parts ropes dofs skip x y hi hm hx hy0 hy1 hd h0 h2 hp
    have : i = 3 := by omega
    subst this
    refine ⟨parts, ropes, dofs, skip, hm, h2 (by omega), hd, fun K k hk => ?_⟩
    obtain ⟨k', rfl, _⟩ := fuel hk
    simp only [F_gantryref15_Model_l99, dF (show ¬ ((3 : Nat) : Int) < v34 by omega), cF0]
  | succ t ih =>
    intro i parts ropes dofs skip x y hi hm hx hy0 hy1 hd h0 h2 hp
    by_cases c1 : (i : Int) < v34
    · by_cases c2 : dofs.length < 5
      · obtain ⟨v181, a1, a2, a3⟩ := At_ok hl (4 + 2 * (i : Int)) (m := 432) (by omega)
        obtain ⟨v183, b1, b2, b3⟩ := shape_ok (x := v181) (by omega)
        obtain ⟨v189, g1, g2, g3⟩ := At_ok hl (5 + 2 * (i : Int)) (m := 7) (by omega)
        have m4 := mod_bd (a := v181) (m := 4) a2 (by omega)
        have e1 : chk (2 * (i : Int)) = some (2 * (i : Int)) := ckO (by omega)
        have e2 : chk (4 + 2 * (i : Int)) = some (4 + 2 * (i : Int)) := ckO (by omega)
        have e3 : chk (5 + 2 * (i : Int)) = some (5 + 2 * (i : Int)) := ckO (by omega)
        have e4 : chk (x + 10) = some (x + 10) := ckO (by omega)
        have e5 : chr v181 4 = some (v181 % 4) := chr_ok a2 (by omega)
        have e6 : chk (1 + v181 % 4) = some (1 + v181 % 4) := ckO (by omega)
        have e7 : chk ((i : Int) + 1) = some ((i + 1 : Nat) : Int) := ckN (m := 0) (by omega) (by omega)
        have d6 : 0 ≤ v181 / 6 ∧ v181 / 6 ≤ 72 := by omega
        -- a block, and on
        have key : ∀ (x' y' : Int), x'.natAbs ≤ 30 + 10 * i → 0 ≤ y' → y' ≤ 10 * i + 4 → ∃ p r d s, ModOk 10 ⟨d, p, r, s⟩ ∧ 2 ≤ p.length ∧ d.length ≤ 7 ∧ ∀ K k, t < k → F_gantryref15_Model_j194 K parts ropes dofs skip (i : Int) v181 v183 v189 (F_gantryref15_Model_l99 K l v34 k) x' y' = some (p, r, d, s) := by
          intro x' y' hx' hy0' hy1'
          have fin : ∀ b : Bool, ∃ p r d s, ModOk 10 ⟨d, p, r, s⟩ ∧ 2 ≤ p.length ∧ d.length ≤ 7 ∧ ∀ K k, t < k → ((F_gantryref15_block (⟨dofs, parts, ropes, skip⟩ : api_Model) v183.1 x' y' (v181 / 6) b).bind fun v198 => bif (decide (0 < v183.2)) then ((chk (y' + v183.2)).bind fun v219 => (chk ((i : Int) + 1)).bind fun v221 => F_gantryref15_Model_l99 K l v34 k v198.parts v198.ropes v198.dofs v198.skip x' v219 v221) else ((chk ((i : Int) + 1)).bind fun v223 => F_gantryref15_Model_l99 K l v34 k v198.parts v198.ropes v198.dofs v198.skip x' 0 v223)) = some (p, r, d, s) := by
            intro b
            obtain ⟨m, m1, m2, m3, m4'⟩ := block_ok hm (by omega) v183.1 (x := x') (y := y') (how := v181 / 6) (by omega) (by omega) (by omega) b
            simp only at m3 m4'
            have hdl : m.dofs.length ≤ 7 := by cases b <;> simp at m3 <;> omega
            by_cases hs : 0 < v183.2
            · obtain ⟨p, r, d, s, n1, n2, n3, n4⟩ := ih (i + 1) m.parts m.ropes m.dofs m.skip x' (y' + v183.2) (by omega) (by rw [show 3 * (i + 1) + 1 = 3 * i + 1 + 3 by omega]; exact m2) (by omega) (by omega) (by omega) hdl (by omega) (by omega) (by omega)
              refine ⟨p, r, d, s, n1, n2, n3, fun K k hk => ?_⟩
              rw [m1, oB, dT hs, cT0, ckO (by omega), oB, e7, oB]
              exact n4 K k hk
            · obtain ⟨p, r, d, s, n1, n2, n3, n4⟩ := ih (i + 1) m.parts m.ropes m.dofs m.skip x' 0 (by omega) (by rw [show 3 * (i + 1) + 1 = 3 * i + 1 + 3 by omega]; exact m2) (by omega) (by omega) (by omega) hdl (by omega) (by omega) (by omega)
              refine ⟨p, r, d, s, n1, n2, n3, fun K k hk => ?_⟩
              rw [m1, oB, dF hs, cF0, e7, oB]
              exact n4 K k hk
          by_cases c6 : v189 = 6
          · obtain ⟨p, r, d, s, n1, n2, n3, n4⟩ := fin (decide ((dofs.length : Int) < 4))
            refine ⟨p, r, d, s, n1, n2, n3, fun K k hk => ?_⟩
            unfold F_gantryref15_Model_j194
            rw [chq_ok a2 (by omega) (by omega), oB, qT c6, cT0]
            exact n4 K k hk
          · obtain ⟨p, r, d, s, n1, n2, n3, n4⟩ := fin false
            refine ⟨p, r, d, s, n1, n2, n3, fun K k hk => ?_⟩
            unfold F_gantryref15_Model_j194
            rw [chq_ok a2 (by omega) (by omega), oB, qF c6, cF0]
            exact n4 K k hk
        by_cases c3 : 0 < y
        · by_cases c4 : v189 < 3
          · obtain ⟨p, r, d, s, n1, n2, n3, n4⟩ := key x y (by omega) hy0 (by omega)
            refine ⟨p, r, d, s, n1, n2, n3, fun K k hk => ?_⟩
            obtain ⟨k', rfl, _⟩ := fuel hk
            simp only [F_gantryref15_Model_l99, dT c1, dT (show (dofs.length : Int) < 5 by omega), e1, e2, e3, a1, b1, g1, dT c3, dT c4, cT0, oB]
            exact n4 K k' (by omega)
          · by_cases c5 : 4 < v189
            · obtain ⟨p, r, d, s, n1, n2, n3, n4⟩ := key (x + 10) (1 + v181 % 4) (by omega) (by omega) (by omega)
              refine ⟨p, r, d, s, n1, n2, n3, fun K k hk => ?_⟩
              obtain ⟨k', rfl, _⟩ := fuel hk
              simp only [F_gantryref15_Model_l99, dT c1, dT (show (dofs.length : Int) < 5 by omega), e1, e2, e3, e4, e5, e6, a1, b1, g1, dT c3, dF c4, dT c5, cT0, cF0, oB]
              exact n4 K k' (by omega)
            · obtain ⟨p, r, d, s, n1, n2, n3, n4⟩ := key (x + 10) 0 (by omega) (by omega) (by omega)
              refine ⟨p, r, d, s, n1, n2, n3, fun K k hk => ?_⟩
              obtain ⟨k', rfl, _⟩ := fuel hk
              simp only [F_gantryref15_Model_l99, dT c1, dT (show (dofs.length : Int) < 5 by omega), e1, e2, e3, e4, a1, b1, g1, dT c3, dF c4, dF c5, cT0, cF0, oB]
              exact n4 K k' (by omega)
        · by_cases c5 : 4 < v189
          · obtain ⟨p, r, d, s, n1, n2, n3, n4⟩ := key (x + 10) (1 + v181 % 4) (by omega) (by omega) (by omega)
            refine ⟨p, r, d, s, n1, n2, n3, fun K k hk => ?_⟩
            obtain ⟨k', rfl, _⟩ := fuel hk
            simp only [F_gantryref15_Model_l99, dT c1, dT (show (dofs.length : Int) < 5 by omega), e1, e2, e3, e4, e5, e6, a1, b1, g1, dF c3, dT c5, cT0, cF0, oB]
            exact n4 K k' (by omega)
          · obtain ⟨p, r, d, s, n1, n2, n3, n4⟩ := key (x + 10) 0 (by omega) (by omega) (by omega)
            refine ⟨p, r, d, s, n1, n2, n3, fun K k hk => ?_⟩
            obtain ⟨k', rfl, _⟩ := fuel hk
            simp only [F_gantryref15_Model_l99, dT c1, dT (show (dofs.length : Int) < 5 by omega), e1, e2, e3, e4, a1, b1, g1, dF c3, dF c5, cT0, cF0, oB]
            exact n4 K k' (by omega)
      · have hi0 : 0 < i := by
          rcases Nat.eq_zero_or_pos i with h | h
          · have := h0 h; subst this; simp at c2
          · exact h
        refine ⟨parts, ropes, dofs, skip, ⟨hm.dofs, by have := hm.nd; omega, by have := hm.np; omega, by have := hm.nr; omega, hm.home⟩, h2 hi0, hd, fun K k hk => ?_⟩
        obtain ⟨k', rfl, _⟩ := fuel hk
        simp only [F_gantryref15_Model_l99, dT c1, dF (show ¬ (dofs.length : Int) < 5 by omega), cT0, cF0]
    · refine ⟨parts, ropes, dofs, skip, ⟨hm.dofs, by have := hm.nd; omega, by have := hm.np; omega, by have := hm.nr; omega, hm.home⟩, h2 (by omega), hd, fun K k hk => ?_⟩
      obtain ⟨k', rfl, _⟩ := fuel hk
      simp only [F_gantryref15_Model_l99, dF c1, cF0]
theorem ModOk.mono {m n : Nat} {x : api_Model} (h : ModOk m x) (hn : m ≤ n) : ModOk n x := ⟨h.dofs, Nat.le_trans h.nd hn, Nat.le_trans h.np hn, Nat.le_trans h.nr hn, h.home⟩
theorem Model_j123 {n : Nat} {d : List api_Dof} {p : List api_Part} {r : List api_Rope} {s : List (Int × Int)} (hm : ModOk n ⟨d, p, r, s⟩) (hn : n ≤ 1000000) (hp : 2 ≤ p.length) {v : Int} (hv : 0 ≤ v ∧ v < 8) : ∃ m, (∀ K, F_gantryref15_Model_j123 K v d p r s = some m) ∧ ModOk (n + 1) m ∧ m.dofs = d := by
  have hr := hm.nr
  have v2 := mod_bd (a := v / 2) (m := 2) (by omega) (by omega)
  have e1 : chq v 2 = some (v / 2) := chq_ok hv.1 (by omega) (by omega)
  have e2 : chr (v / 2) 2 = some (v / 2 % 2) := chr_ok (by omega) (by omega)
  have e3 : chq v 4 = some (v / 4) := chq_ok hv.1 (by omega) (by omega)
  obtain ⟨q, q1, q2⟩ := num_ok (n := v / 4) (by omega)
  obtain ⟨x, hx, _, hx2⟩ := rdM (xs := p) (i := 1) (by omega)
  simp only [Int.natCast_one] at hx2
  have hb := hm.home x hx
  have e4 := qadd_ok hb q2 (by omega) (by omega)
  have hdofs := hm.dofs
  have hnd := hm.nd
  have hnp := hm.np
  simp only at hdofs hnd hnp hr
  have e5 : ∀ y : api_Rope, apL r [y] = some (r ++ [y]) := fun y => apS (by omega)
  have nl : ∀ y : api_Rope, (r ++ [y]).length ≤ n + 1 := fun y => by simp; omega
  by_cases c1 : v / 2 % 2 = 1
  · by_cases c2 : v = 7
    · by_cases c3 : (2 : Int) < p.length
      · simp only [F_gantryref15_Model_j123, e1, e2, e3, e4, e5, hx2, q1, qT c1, qT c2, dT c3, cT0, oB]
        exact ⟨_, fun _ => rfl, ⟨hdofs, Nat.le_succ_of_le hnd, Nat.le_succ_of_le hnp, nl _, hm.home⟩, rfl⟩
      · simp only [F_gantryref15_Model_j123, e1, e2, e3, e4, e5, hx2, q1, qT c1, qT c2, dF c3, cT0, cF0, oB]
        exact ⟨_, fun _ => rfl, ⟨hdofs, Nat.le_succ_of_le hnd, Nat.le_succ_of_le hnp, nl _, hm.home⟩, rfl⟩
    · simp only [F_gantryref15_Model_j123, e1, e2, e3, e4, e5, hx2, q1, qT c1, qF c2, cT0, cF0, oB]
      exact ⟨_, fun _ => rfl, ⟨hdofs, Nat.le_succ_of_le hnd, Nat.le_succ_of_le hnp, nl _, hm.home⟩, rfl⟩
  · by_cases c2 : v = 7
    · by_cases c3 : (2 : Int) < p.length
      · simp only [F_gantryref15_Model_j123, e1, e2, qF c1, qT c2, dT c3, cT0, cF0, oB]
        exact ⟨_, fun _ => rfl, ⟨hdofs, Nat.le_succ_of_le hnd, Nat.le_succ_of_le hnp, Nat.le_succ_of_le hr, hm.home⟩, rfl⟩
      · simp only [F_gantryref15_Model_j123, e1, e2, qF c1, qT c2, dF c3, cT0, cF0, oB]
        exact ⟨_, fun _ => rfl, ⟨hdofs, Nat.le_succ_of_le hnd, Nat.le_succ_of_le hnp, Nat.le_succ_of_le hr, hm.home⟩, rfl⟩
    · simp only [F_gantryref15_Model_j123, e1, e2, qF c1, qF c2, cF0, oB]
      exact ⟨_, fun _ => rfl, ⟨hdofs, Nat.le_succ_of_le hnd, Nat.le_succ_of_le hnp, Nat.le_succ_of_le hr, hm.home⟩, rfl⟩
theorem Model_ok {l : List Int} (hl : I64s l) : ∃ m, ModOk 14 m ∧ m.dofs.length ≤ 8 ∧ Ev (fun K => F_gantryref15_Model K l) m := by
  obtain ⟨v21, a1, a2, a3⟩ := At_ok hl 0 (m := 4) (by omega)
  obtain ⟨q1, b1, _, b2⟩ := qof_bd (k := 8) (p := v21) (q := 2) (by omega) (by omega) (by decide) (by omega)
  obtain ⟨v25, c1, c2, c3⟩ := At_ok hl 1 (m := 3) (by omega)
  obtain ⟨q2, d1, _, d2⟩ := qof_bd (k := 8) (p := v25) (q := 2) (by omega) (by omega) (by decide) (by omega)
  obtain ⟨v32, e1, e2, e3⟩ := At_ok hl 2 (m := 3) (by omega)
  obtain ⟨p, r, d, s, n1, n2, n3, n4⟩ := Model_l99 hl (v34 := 1 + v32) (by omega) 3 0
    [(⟨[(⟨(-40), (-4)⟩ : api_Point), (⟨60, (-4)⟩ : api_Point), (⟨60, 0⟩ : api_Point), (⟨(-40), 0⟩ : api_Point)], (⟨0, 0⟩ : api_Vec), ([] : List api_Column), q1, q2⟩ : api_Part)] [] [] [] (-18) 0 (by omega)
    ⟨fun d hd => by simp at hd, by simp, by simp, by simp, fun p hp => by
      rw [List.mem_singleton.1 hp]; exact Bd.zero.mono (by omega)⟩ (by decide) (by omega) (by omega) (by simp) (fun _ => rfl) (by omega) (by simp)
  obtain ⟨v101, f1, f2, f3⟩ := At_ok hl 3 (m := 8) (by omega)
  have m2 := mod_bd (a := v101) (m := 2) f2 (by omega)
  have g1 : chr v101 2 = some (v101 % 2) := chr_ok f2 (by omega)
  have hhead : ∀ {x : api_Model}, (∃ N, ∀ K, N ≤ K → F_gantryref15_Model_j100 K l p r d s = some x) → Ev (fun K => F_gantryref15_Model K l) x := by
    rintro x ⟨N, hN⟩
    refine ⟨max N 4, fun K hK => ?_⟩
    have h4 := n4 K K (by omega)
    simp only [Int.natCast_zero] at h4
    simp only [F_gantryref15_Model, a1, b1, c1, d1, e1, ckO (show -9223372036854775808 ≤ 1 + v32 ∧ 1 + v32 ≤ 9223372036854775807 by omega), h4, oB]
    exact hN K (by omega)
  by_cases h1 : v101 % 2 = 1
  · by_cases h2 : (d.length : Int) < 6
    · obtain ⟨t, t1, t2, t3, t4⟩ := train_ok n1 (by omega) (a := v101) (by omega)
      simp only at t3 t4
      obtain ⟨m, k3, k1, k2⟩ := Model_j123 (n := 13) (d := t.dofs) (p := t.parts) (r := t.ropes) (s := t.skip) (t2.mono (by omega)) (by omega) (by omega) ⟨f2, f3⟩
      refine ⟨m, k1, by rw [k2]; omega, hhead ⟨0, fun K _ => ?_⟩⟩
      simp only [F_gantryref15_Model_j100, f1, g1, oB, qT h1, cT0, dT h2, t1]
      exact k3 K
    · obtain ⟨m, k3, k1, k2⟩ := Model_j123 n1 (by omega) n2 ⟨f2, f3⟩
      refine ⟨m, k1.mono (by omega), by rw [k2]; omega, hhead ⟨0, fun K _ => ?_⟩⟩
      simp only [F_gantryref15_Model_j100, f1, g1, oB, qT h1, cT0, dF h2, cF0]
      exact k3 K
  · obtain ⟨m, k3, k1, k2⟩ := Model_j123 n1 (by omega) n2 ⟨f2, f3⟩
    refine ⟨m, k1.mono (by omega), by rw [k2]; omega, hhead ⟨0, fun K _ => ?_⟩⟩
    simp only [F_gantryref15_Model_j100, f1, g1, oB, qF h1, cF0]
    exact k3 K

/-! ### Sums -/
def sm (f : Nat → Rat) : Nat → Rat
  | 0 => 0
  | n + 1 => sm f n + f n
/-- An account: what its entries are, and that they are small. -/
structure AccOk (c : Nat) (a : energy_account) (n : Nat) (f : Nat → Rat) : Prop where
  hn : a.n = n
  hof : ∀ i, i < n → a.of (i : Int) = some (f i)
  hbd : ∀ i, i < n → Bd c (f i)
theorem sum_l19 {c n : Nat} {a : energy_account} {f : Nat → Rat} (h : AccOk c a n f) {b0 : Nat} (hB : b0 + n * (c + 1) ≤ 1073741824) (hn : n ≤ 1000000) {a0 : Rat} : ∀ (t i : Nat) (acc : Rat), i + t = n → acc = a0 + sm f i → Bd (b0 + i * (c + 1)) acc →
    Bd (b0 + n * (c + 1)) (a0 + sm f n) ∧ ∀ K k, t < k → F_energy_sum_l19 K a k acc (i : Int) = some (a0 + sm f n)
  | 0, i, acc, hi, he, hb => by
    have : i = n := by omega
    subst this
    refine ⟨he ▸ hb, fun K k hk => ?_⟩
    obtain ⟨k', rfl, _⟩ := fuel hk
    simp only [F_energy_sum_l19, h.hn, dF (show ¬ (i : Int) < (i : Int) by omega), cF0, he]
  | t + 1, i, acc, hi, he, hb => by
    have hfi := h.hbd i (by omega)
    have hmul : i * (c + 1) + (c + 1) ≤ n * (c + 1) := by
      have := Nat.mul_le_mul_right (c + 1) (show i + 1 ≤ n by omega)
      rw [Nat.add_mul, Nat.one_mul] at this; exact this
    obtain ⟨g1, g2⟩ := sum_l19 h hB hn t (i + 1) (acc + f i) (by omega) (by rw [he]; simp only [sm]; rw [Rat.add_assoc]) ((hb.add hfi).mono (by rw [Nat.add_mul]; omega))
    refine ⟨g1, fun K k hk => ?_⟩
    obtain ⟨k', rfl, _⟩ := fuel hk
    simp only [F_energy_sum_l19, h.hn, dT (show (i : Int) < (n : Int) by omega), cT0, h.hof i (by omega), qadd_ok hb hfi (by omega) (by omega), ckN (m := 0) (n := i + 1) (show (i : Int) + 1 = ((i + 1 : Nat) : Int) by omega) (by omega), oB]
    exact g2 K k' (by omega)
/-- Accounts, one behind the other. -/
def AccsOk (c N : Nat) : List energy_account → List (Nat × (Nat → Rat)) → Prop
  | [], [] => True
  | a :: l, f :: r => AccOk c a f.1 f.2 ∧ f.1 ≤ N ∧ AccsOk c N l r
  | _, _ => False
def tot : Rat → List (Nat × (Nat → Rat)) → Rat
  | a, [] => a
  | a, f :: r => tot (a + sm f.2 f.1) r
theorem AccsOk.len {c N : Nat} : ∀ {l : List energy_account} {fs : List (Nat × (Nat → Rat))}, AccsOk c N l fs → l.length = fs.length
  | [], [], _ => rfl
  | _ :: _, _ :: _, h => by simp [h.2.2.len]
  | [], _ :: _, h => h.elim
  | _ :: _, [], h => h.elim
theorem AccsOk.get {c N : Nat} : ∀ {l : List energy_account} {fs : List (Nat × (Nat → Rat))} {i : Nat} {f : Nat × (Nat → Rat)}, AccsOk c N l fs → fs[i]? = some f → ∃ a, l[i]? = some a ∧ AccOk c a f.1 f.2 ∧ f.1 ≤ N
  | [], [], i, f, _, hf => by simp at hf
  | a :: _, g :: _, 0, f, h, hf => by simp at hf; subst hf; exact ⟨a, rfl, h.1, h.2.1⟩
  | _ :: _, _ :: _, i + 1, f, h, hf => by
    obtain ⟨a, h1, h2⟩ := h.2.2.get (i := i) (by simpa using hf)
    exact ⟨a, by simpa using h1, h2⟩
  | [], _ :: _, _, _, h, _ => h.elim
  | _ :: _, [], _, _, h, _ => h.elim
theorem sum_l8 {c N : Nat} {l : List energy_account} {fs : List (Nat × (Nat → Rat))} (h : AccsOk c N l fs) (hN : N ≤ 1000000) (hl : l.length ≤ 1000000) {b0 : Nat} (hB : b0 + l.length * (N * (c + 1)) ≤ 1073741824) : ∀ (t i : Nat) (acc : Rat), i + t = l.length → Bd (b0 + i * (N * (c + 1))) acc →
    Bd (b0 + l.length * (N * (c + 1))) (tot acc (fs.drop i)) ∧ ∀ K k, t < k → N + 1 < K → F_energy_sum_l8 K l k acc (i : Int) = some (tot acc (fs.drop i))
  | 0, i, acc, hi, hb => by
    have : i = l.length := by omega
    subst this
    rw [List.drop_of_length_le (by rw [h.len]; exact Nat.le_refl _)]
    refine ⟨hb, fun K k hk _ => ?_⟩
    obtain ⟨k', rfl, _⟩ := fuel hk
    simp only [F_energy_sum_l8, dF (show ¬ (l.length : Int) < (l.length : Int) by omega), cF0, tot]
  | t + 1, i, acc, hi, hb => by
    have hif : i < fs.length := by rw [← h.len]; omega
    obtain ⟨a, h1, h2, h3⟩ := h.get (i := i) (f := fs[i]) (List.getElem?_eq_getElem hif)
    have hmul : i * (N * (c + 1)) + N * (c + 1) ≤ l.length * (N * (c + 1)) := by
      have := Nat.mul_le_mul_right (N * (c + 1)) (show i + 1 ≤ l.length by omega)
      rw [Nat.add_mul i 1, Nat.one_mul] at this; exact this
    have hmul2 : fs[i].1 * (c + 1) ≤ N * (c + 1) := Nat.mul_le_mul_right _ h3
    obtain ⟨g1, g2⟩ := sum_l19 h2 (b0 := b0 + i * (N * (c + 1))) (by omega) (by omega) (a0 := acc) fs[i].1 0 acc (by omega) (by simp only [sm]; rw [Rat.add_zero]) (hb.mono (by omega))
    obtain ⟨k1, k2⟩ := sum_l8 h hN hl hB t (i + 1) (acc + sm fs[i].2 fs[i].1) (by omega) (g1.mono (by rw [Nat.add_mul]; omega))
    have hdrop : fs.drop i = fs[i] :: fs.drop (i + 1) := List.drop_eq_getElem_cons hif
    rw [hdrop]
    refine ⟨k1, fun K k hk hK => ?_⟩
    obtain ⟨k', rfl, _⟩ := fuel hk
    have g2' := g2 K K (by omega)
    simp only [Int.natCast_zero] at g2'
    simp only [F_energy_sum_l8, dT (show (i : Int) < (l.length : Int) by omega), cT0, rdG h1, g2', F_energy_sum_j20, ckN (m := 0) (n := i + 1) (show (i : Int) + 1 = ((i + 1 : Nat) : Int) by omega) (by omega), oB]
    exact k2 K k' (by omega) (by omega)
theorem sum_ok {c N : Nat} {l : List energy_account} {fs : List (Nat × (Nat → Rat))} (h : AccsOk c N l fs) (hN : N ≤ 1000000) (hl : l.length ≤ 1000000) (hB : 1 + l.length * (N * (c + 1)) ≤ 1073741824) : Bd (1 + l.length * (N * (c + 1))) (tot 0 fs) ∧ Ev (fun K => F_energy_sum K l) (tot 0 fs) := by
  obtain ⟨g1, g2⟩ := sum_l8 h hN hl hB l.length 0 0 (by omega) (Bd.zero.mono (by omega))
  refine ⟨g1, ⟨max l.length (N + 1) + 1, fun K hK => ?_⟩⟩
  have := g2 K K (by omega) (by omega)
  simp only [Int.natCast_zero, List.drop_zero] at this
  simp only [F_energy_sum, this, oB, F_energy_sum_j9]
end Go.Proofs.YtkjnngaceacmdaaGreat
