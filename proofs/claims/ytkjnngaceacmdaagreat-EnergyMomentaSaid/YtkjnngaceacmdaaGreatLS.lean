/- The scene that gantryref19.Make returns; terms, rows and factors of package energy. -/
import Derived.Test.YtkjnngaceacmdaaGreatLD
import Derived.Test.YtkjnngaceacmdaaGreatMC
set_option linter.unusedVariables false
namespace Go.Proofs.YtkjnngaceacmdaaGreat

/-- Terms that are few and small. -/
def TB (l : List api_Term) : Prop := l.length ≤ 12 ∧ ∀ t ∈ l, Bd 8 t.k
def RB (r : api_Row) : Prop := TB r.j ∧ TB r.t
def RsB (l : List api_Row) : Prop := ∀ r ∈ l, RB r
theorem TB.nil : TB [] := ⟨by simp, fun t h => absurd h List.not_mem_nil⟩
theorem RsB.nil : RsB [] := fun t h => absurd h List.not_mem_nil
theorem RsB.snoc {l : List api_Row} {r : api_Row} (h : RsB l) (hr : RB r) : RsB (l ++ [r]) := fun x hx => by
  rcases List.mem_append.1 hx with h1 | h1
  · exact h x h1
  · rw [List.mem_singleton.1 h1]; exact hr
/-- A scene of n degrees of freedom. -/
structure ScOk (s : gantryref19_Scene) : Prop where
  n1 : 1 ≤ s.dofs.length
  n4 : s.dofs.length ≤ 4
  dofs : Dofs s.dofs
  ll : s.load.length = s.dofs.length
  vl : s.v.length = s.dofs.length
  load : Bds 8 s.load
  v : Bds 8 s.v
  rows : RsB s.rows
  rl : s.rows.length ≤ 4
theorem tab7 {m : Int} (h0 : 0 ≤ m) (h1 : m < 7) : ∃ x, rdL [0, 1, (-1), 0, 2, (-1), 1] m = some x ∧ -2 ≤ x ∧ x ≤ 2 := by
  have : m = 0 ∨ m = 1 ∨ m = 2 ∨ m = 3 ∨ m = 4 ∨ m = 5 ∨ m = 6 := by omega
  rcases this with rfl | rfl | rfl | rfl | rfl | rfl | rfl <;> exact ⟨_, rfl, by omega, by omega⟩
theorem some_l25 {n : Nat} (hn : n ≤ 12) : ∀ (t i : Nat) (out : List api_Term) (v : Int), i + t = n → 0 ≤ v → v ≤ 4000000000000 → out.length ≤ i → (∀ t ∈ out, Bd 8 t.k) → ∃ r, TB r ∧ ∀ K k, t < k → F_gantryref19_some_l25 K (n : Int) k out v (i : Int) = some r
  | 0, i, out, v, hi, h0, h1, hl, hb => ⟨out, ⟨by omega, hb⟩, fun K k hk => by
    obtain ⟨k', rfl, _⟩ := fuel hk
    simp only [F_gantryref19_some_l25, dF (show ¬ (i : Int) < (n : Int) by omega), cF0]⟩
  | t + 1, i, out, v, hi, h0, h1, hl, hb => by
    have m7 := mod_bd (a := v) (m := 7) h0 (by omega)
    obtain ⟨x, x1, x2, x3⟩ := tab7 m7.1 m7.2
    have m3 := mod_bd (a := v / 7) (m := 3) (by omega) (by omega)
    have e1 : chr v 7 = some (v % 7) := chr_ok h0 (by omega)
    have e2 : chq v 7 = some (v / 7) := chq_ok h0 (by omega) (by omega)
    have e3 : chr (v / 7) 3 = some (v / 7 % 3) := chr_ok (by omega) (by omega)
    have e4 : chq (v / 7) 3 = some (v / 7 / 3) := chq_ok (by omega) (by omega) (by omega)
    have e5 : chk (1 + v / 7 % 3) = some (1 + v / 7 % 3) := ckO (by omega)
    by_cases hx : x = 0
    · obtain ⟨r, r1, r2⟩ := some_l25 hn t (i + 1) out (v / 7 / 3) (by omega) (by omega) (by omega) (by omega) hb
      refine ⟨r, r1, fun K k hk => ?_⟩
      obtain ⟨k', rfl, _⟩ := fuel hk
      simp only [F_gantryref19_some_l25, dT (show (i : Int) < (n : Int) by omega), cT0, e1, oB, x1, e2, nF hx, cF0, e4, ckS (i := i) (by omega)]
      exact r2 K k' (by omega)
    · obtain ⟨q, q1, q2, q3⟩ := qof_bd (k := 8) (p := x) (q := 1 + v / 7 % 3) (by omega) (by omega) (by omega) (by omega)
      obtain ⟨r, r1, r2⟩ := some_l25 hn t (i + 1) (out ++ [⟨(i : Int), q⟩]) (v / 7 / 3) (by omega) (by omega) (by omega) (by simp; omega) (fun t ht => by
        rcases List.mem_append.1 ht with h | h
        · exact hb t h
        · rw [List.mem_singleton.1 h]; exact q3)
      refine ⟨r, r1, fun K k hk => ?_⟩
      obtain ⟨k', rfl, _⟩ := fuel hk
      simp only [F_gantryref19_some_l25, dT (show (i : Int) < (n : Int) by omega), cT0, e1, oB, x1, e2, nT hx, e3, e5, q1, apS (xs := out) (x := (⟨(i : Int), q⟩ : api_Term)) (by omega), e4, ckS (i := i) (by omega)]
      exact r2 K k' (by omega)
theorem some_ok {n : Nat} (hn : n ≤ 12) {v : Int} (h0 : 0 ≤ v) (h1 : v ≤ 4000000000000) : ∃ r, TB r ∧ ∀ K, n < K → F_gantryref19_some K v (n : Int) = some r := by
  obtain ⟨r, r1, r2⟩ := some_l25 hn n 0 [] v (by omega) h0 h1 (by simp) (fun t h => absurd h List.not_mem_nil)
  refine ⟨r, r1, fun K hK => ?_⟩
  have := r2 K K hK
  simp only [Int.natCast_zero] at this
  simp only [F_gantryref19_some, this, oB, F_gantryref19_some_j26]
theorem Make_l87 {l : List Int} (hl : I64s l) {n : Nat} (hn : n ≤ 4) : ∀ (t i : Nat) (a b : List Rat) (d : List api_Dof), i + t = n → a.length = i → b.length = i → d.length = i → Bds 8 a → Bds 8 b → Dofs d →
    ∃ a' b' d', a'.length = n ∧ b'.length = n ∧ d'.length = n ∧ Bds 8 a' ∧ Bds 8 b' ∧ Dofs d' ∧ ∀ K k, t < k → F_gantryref19_Make_l87 K l (n : Int) k a b d (i : Int) = some (a', b', d')
  | 0, i, a, b, d, hi, h1, h2, h3, h4, h5, h6 => ⟨a, b, d, by omega, by omega, by omega, h4, h5, h6, fun K k hk => by
    obtain ⟨k', rfl, _⟩ := fuel hk
    simp only [F_gantryref19_Make_l87, dF (show ¬ (i : Int) < (n : Int) by omega), cF0]⟩
  | t + 1, i, a, b, d, hi, h1, h2, h3, h4, h5, h6 => by
    obtain ⟨v, v1, v2, v3⟩ := At_ok hl (1 + (i : Int)) (m := 1073741824) (by omega)
    have m3 := mod_bd (a := v) (m := 3) v2 (by omega)
    have m4 := mod_bd (a := v / 3) (m := 4) (by omega) (by omega)
    have m13 := mod_bd (a := v / 12) (m := 13) (by omega) (by omega)
    have m33 := mod_bd (a := v / 156) (m := 3) (by omega) (by omega)
    have e0 : chk (1 + (i : Int)) = some (1 + (i : Int)) := ckO (by omega)
    have e1 : chr v 3 = some (v % 3) := chr_ok v2 (by omega)
    have e2 : chk (1 + v % 3) = some (1 + v % 3) := ckO (by omega)
    have e3 : chq v 3 = some (v / 3) := chq_ok v2 (by omega) (by omega)
    have e4 : chr (v / 3) 4 = some (v / 3 % 4) := chr_ok (by omega) (by omega)
    have e5 : chk (1 + v / 3 % 4) = some (1 + v / 3 % 4) := ckO (by omega)
    obtain ⟨q, q1, q2, q3⟩ := qof_bd (k := 8) (p := 1 + v % 3) (q := 1 + v / 3 % 4) (by omega) (by omega) (by omega) (by omega)
    have e6 : chq v 12 = some (v / 12) := chq_ok v2 (by omega) (by omega)
    have e7 : chr (v / 12) 13 = some (v / 12 % 13) := chr_ok (by omega) (by omega)
    have e8 : chk (v / 12 % 13 - 6) = some (v / 12 % 13 - 6) := ckO (by omega)
    have e9 : chq v 156 = some (v / 156) := chq_ok v2 (by omega) (by omega)
    have e10 : chr (v / 156) 3 = some (v / 156 % 3) := chr_ok (by omega) (by omega)
    have e11 : chk (1 + v / 156 % 3) = some (1 + v / 156 % 3) := ckO (by omega)
    obtain ⟨p, p1, p2, p3⟩ := qof_bd (k := 8) (p := v / 12 % 13 - 6) (q := 1 + v / 156 % 3) (by omega) (by omega) (by omega) (by omega)
    have hq : DofOk ⟨q, 0, false, 0, 0⟩ := ⟨q3, by rw [q2]; exact div_ne (by omega) (by omega), Bd.zero.mono (by omega)⟩
    obtain ⟨a', b', d', g1, g2, g3, g4, g5, g6, g7⟩ := Make_l87 hl hn t (i + 1) (a ++ [0]) (b ++ [p]) (d ++ [⟨q, 0, false, 0, 0⟩]) (by omega) (by simp; omega) (by simp; omega) (by simp; omega) (h4.snoc (Bd.zero.mono (by omega))) (h5.snoc p3) (fun x hx => by
      rcases List.mem_append.1 hx with h | h
      · exact h6 x h
      · rw [List.mem_singleton.1 h]; exact hq)
    refine ⟨a', b', d', g1, g2, g3, g4, g5, g6, fun K k hk => ?_⟩
    obtain ⟨k', rfl, _⟩ := fuel hk
    simp only [F_gantryref19_Make_l87, dT (show (i : Int) < (n : Int) by omega), cT0, e0, oB, v1, e1, e2, e3, e4, e5, q1, apS (xs := d) (x := (⟨q, 0, false, 0, 0⟩ : api_Dof)) (by omega), e6, e7, e8, e9, e10, e11, p1, apS (xs := b) (x := p) (by omega), apS (xs := a) (x := (0 : Rat)) (by omega), ckS (i := i) (by omega)]
    exact g7 K k' (by omega)
/-- A row that the loop makes. -/
theorem Make_row {l : List Int} (hl : I64s l) (i : Nat) (hi : i ≤ 10) (n : Nat) (hn : 1 ≤ n ∧ n ≤ 4) : ∃ v129 v137 v145 v151 q r131 r139 r197,
    F_gantryref01_At l (9 + 3 * (i : Int)) 1099511627776 = some v129 ∧ F_gantryref01_At l (10 + 3 * (i : Int)) 1099511627776 = some v137 ∧ F_gantryref01_At l (11 + 3 * (i : Int)) 5 = some v145 ∧ F_gantryref01_At l (11 + 3 * (i : Int)) 3 = some v151 ∧ chk (1 + v151) = some (1 + v151) ∧ qof v145 (1 + v151) = some q ∧ Bd 8 q ∧ 0 ≤ v129 ∧ v129 ≤ 4000000000000 ∧ TB r131 ∧ TB r139 ∧ TB r197 ∧
    ∀ K, n < K → F_gantryref19_some K v129 (n : Int) = some r131 ∧ F_gantryref19_some K v137 (n : Int) = some r139 ∧ F_gantryref19_some K v129 ((n : Int) - 1) = some r197 := by
  obtain ⟨v, v1, v2, v3⟩ := At_ok hl (9 + 3 * (i : Int)) (m := 1099511627776) (by omega)
  obtain ⟨w, w1, w2, w3⟩ := At_ok hl (10 + 3 * (i : Int)) (m := 1099511627776) (by omega)
  obtain ⟨x, x1, x2, x3⟩ := At_ok hl (11 + 3 * (i : Int)) (m := 5) (by omega)
  obtain ⟨y, y1, y2, y3⟩ := At_ok hl (11 + 3 * (i : Int)) (m := 3) (by omega)
  obtain ⟨q, q1, q2, q3⟩ := qof_bd (k := 8) (p := x) (q := 1 + y) (by omega) (by omega) (by omega) (by omega)
  obtain ⟨a, a1, a2⟩ := some_ok (n := n) (v := v) (by omega) v2 (by omega)
  obtain ⟨b, b1, b2⟩ := some_ok (n := n) (v := w) (by omega) w2 (by omega)
  obtain ⟨c, c1, c2⟩ := some_ok (n := n - 1) (v := v) (by omega) v2 (by omega)
  refine ⟨v, w, x, y, q, a, b, c, v1, w1, x1, y1, ckO (by omega), q1, q3, v2, by omega, a1, b1, c1, fun K hK => ⟨a2 K hK, b2 K hK, ?_⟩⟩
  have := c2 K (by omega)
  rw [show ((n - 1 : Nat) : Int) = (n : Int) - 1 by omega] at this
  exact this
theorem Make_j160 {x107 : List api_Row} {i : Nat} {v129 : Int} {r : api_Row} (hi : i ≤ 10) (hv : 0 ≤ v129) (hm : Bd 8 r.mu) (hr : RB r) (hl : x107.length ≤ 100) : ∃ r', RB r' ∧ ∀ K recl, F_gantryref19_Make_j160 K x107 (i : Int) v129 recl r = recl (x107 ++ [r']) ((i + 1 : Nat) : Int) := by
  by_cases h0 : r.mu = 0
  · refine ⟨⟨r.kind, r.a, r.b, r.edge, r.gap, r.j, [], 0, r.e⟩, ⟨hr.1, TB.nil⟩, fun K recl => ?_⟩
    simp only [F_gantryref19_Make_j160, qsgn_ok hm (by omega), oB, qT (sgn0.2 h0), cT0, apS (show x107.length ≤ 60000000000 by omega), ckS (i := i) (by omega)]
  · by_cases h1 : v129 % 5 = 0
    · refine ⟨⟨r.kind, r.a, r.b, r.edge, r.gap, r.j, [], 0, r.e⟩, ⟨hr.1, TB.nil⟩, fun K recl => ?_⟩
      simp only [F_gantryref19_Make_j160, qsgn_ok hm (by omega), oB, qF (fun h => h0 (sgn0.1 h)), cF0, chr_ok hv (show (0 : Int) < 5 by omega), qT h1, cT0, apS (show x107.length ≤ 60000000000 by omega), ckS (i := i) (by omega)]
    · refine ⟨r, hr, fun K recl => ?_⟩
      simp only [F_gantryref19_Make_j160, qsgn_ok hm (by omega), oB, qF (fun h => h0 (sgn0.1 h)), cF0, chr_ok hv (show (0 : Int) < 5 by omega), qF h1, apS (show x107.length ≤ 60000000000 by omega), ckS (i := i) (by omega)]
theorem Make_j280 {x107 : List api_Row} {i : Nat} {v129 : Int} {a b : List api_Term} {m : Rat} (hi : i ≤ 10) (hv : 0 ≤ v129) (hm : Bd 8 m) (ha : TB a) (hb : TB b) (hl : x107.length ≤ 100) : ∃ r', RB r' ∧ ∀ K recl, F_gantryref19_Make_j280 K x107 (i : Int) v129 a b m recl = recl (x107 ++ [r']) ((i + 1 : Nat) : Int) := by
  by_cases h0 : m = 0
  · refine ⟨⟨0, 0, (i : Int), 0, 0, a, [], 0, 0⟩, ⟨ha, TB.nil⟩, fun K recl => ?_⟩
    simp only [F_gantryref19_Make_j280, qsgn_ok hm (by omega), oB, qT (sgn0.2 h0), cT0, apS (show x107.length ≤ 60000000000 by omega), ckS (i := i) (by omega)]
  · by_cases h1 : v129 % 5 = 0
    · refine ⟨⟨0, 0, (i : Int), 0, 0, a, [], 0, 0⟩, ⟨ha, TB.nil⟩, fun K recl => ?_⟩
      simp only [F_gantryref19_Make_j280, qsgn_ok hm (by omega), oB, qF (fun h => h0 (sgn0.1 h)), cF0, chr_ok hv (show (0 : Int) < 5 by omega), qT h1, cT0, apS (show x107.length ≤ 60000000000 by omega), ckS (i := i) (by omega)]
    · refine ⟨⟨0, 0, (i : Int), 0, 0, a, b, m, 0⟩, ⟨ha, hb⟩, fun K recl => ?_⟩
      simp only [F_gantryref19_Make_j280, qsgn_ok hm (by omega), oB, qF (fun h => h0 (sgn0.1 h)), cF0, chr_ok hv (show (0 : Int) < 5 by omega), qF h1, apS (show x107.length ≤ 60000000000 by omega), ckS (i := i) (by omega)]
theorem Make_l120 {l : List Int} (hl : I64s l) (a1 : Bool) (n : Nat) (hn : 1 ≤ n ∧ n ≤ 4) {v8 : Int} (h8 : F_gantryref01_At l 8 5 = some v8) (h8' : v8 < 5) : ∀ (t i : Nat) (x : List api_Row), i + t = 4 → x.length = i → RsB x →
    ∃ r, RsB r ∧ r.length ≤ 4 ∧ ∀ K k, n < K → t < k → F_gantryref19_Make_l120 K l a1 (n : Int) k x (i : Int) = some r
  | 0, i, x, hi, hx, hr => ⟨x, hr, by omega, fun K k hK hk => by
    obtain ⟨k', rfl, _⟩ := fuel hk
    simp only [F_gantryref19_Make_l120, h8, oB, dF (show ¬ (i : Int) < v8 by omega), cF0]⟩
  | t + 1, i, x, hi, hx, hr => by
    by_cases hlt : (i : Int) < v8
    · obtain ⟨v129, v137, v145, v151, q, r131, r139, r197, b1, b2, b3, b4, b5, b6, b7, b8, b9, b10, b11, b12, b13⟩ := Make_row hl i (by omega) n hn
      have e3 : chk (3 * (i : Int)) = some (3 * (i : Int)) := ckO (by omega)
      have e9 : chk (9 + 3 * (i : Int)) = some (9 + 3 * (i : Int)) := ckO (by omega)
      have e10 : chk (10 + 3 * (i : Int)) = some (10 + 3 * (i : Int)) := ckO (by omega)
      have e11 : chk (11 + 3 * (i : Int)) = some (11 + 3 * (i : Int)) := ckO (by omega)
      have en : chk ((n : Int) - 1) = some ((n : Int) - 1) := ckO (by omega)
      cases a1
      · obtain ⟨r', c1, c2⟩ := Make_j160 (x107 := x) (i := i) (v129 := v129) (r := ⟨0, 0, (i : Int), 0, 0, r197, r139, q, 0⟩) (by omega) b8 b7 ⟨b12, b11⟩ (by omega)
        obtain ⟨r, d1, d2, d3⟩ := Make_l120 hl false n hn h8 h8' t (i + 1) (x ++ [r']) (by omega) (by simp; omega) (hr.snoc c1)
        refine ⟨r, d1, d2, fun K k hK hk => ?_⟩
        obtain ⟨k', rfl, _⟩ := fuel hk
        obtain ⟨s1, s2, s3⟩ := b13 K hK
        simp only [F_gantryref19_Make_l120, h8, oB, dT hlt, cT0, e3, e9, e10, e11, b1, b2, b3, b4, b5, b6, s1, s2, s3, Bool.not_false, en, c2]
        exact d3 K k' hK (by omega)
      · obtain ⟨r', c1, c2⟩ := Make_j160 (x107 := x) (i := i) (v129 := v129) (r := ⟨0, 0, (i : Int), 0, 0, r131, r139, q, 0⟩) (by omega) b8 b7 ⟨b10, b11⟩ (by omega)
        obtain ⟨r, d1, d2, d3⟩ := Make_l120 hl true n hn h8 h8' t (i + 1) (x ++ [r']) (by omega) (by simp; omega) (hr.snoc c1)
        refine ⟨r, d1, d2, fun K k hK hk => ?_⟩
        obtain ⟨k', rfl, _⟩ := fuel hk
        obtain ⟨s1, s2, s3⟩ := b13 K hK
        simp only [F_gantryref19_Make_l120, h8, oB, dT hlt, cT0, e3, e9, e10, e11, b1, b2, b3, b4, b5, b6, s1, s2, Bool.not_true, cF0, c2]
        exact d3 K k' hK (by omega)
    · refine ⟨x, hr, by omega, fun K k hK hk => ?_⟩
      obtain ⟨k', rfl, _⟩ := fuel hk
      simp only [F_gantryref19_Make_l120, h8, oB, dF hlt, cF0]
theorem Make_l241 {l : List Int} (hl : I64s l) (n : Nat) (hn : 1 ≤ n ∧ n ≤ 4) {v8 : Int} (h8 : F_gantryref01_At l 8 5 = some v8) (h8' : v8 < 5) : ∀ (t i : Nat) (x : List api_Row), i + t = 4 → x.length = i → RsB x →
    ∃ r, RsB r ∧ r.length ≤ 4 ∧ ∀ K k, n < K → t < k → F_gantryref19_Make_l241 K l (n : Int) k x (i : Int) = some r
  | 0, i, x, hi, hx, hr => ⟨x, hr, by omega, fun K k hK hk => by
    obtain ⟨k', rfl, _⟩ := fuel hk
    simp only [F_gantryref19_Make_l241, h8, oB, dF (show ¬ (i : Int) < v8 by omega), cF0]⟩
  | t + 1, i, x, hi, hx, hr => by
    by_cases hlt : (i : Int) < v8
    · obtain ⟨v129, v137, v145, v151, q, r131, r139, r197, b1, b2, b3, b4, b5, b6, b7, b8, b9, b10, b11, b12, b13⟩ := Make_row hl i (by omega) n hn
      have e3 : chk (3 * (i : Int)) = some (3 * (i : Int)) := ckO (by omega)
      have e9 : chk (9 + 3 * (i : Int)) = some (9 + 3 * (i : Int)) := ckO (by omega)
      have e10 : chk (10 + 3 * (i : Int)) = some (10 + 3 * (i : Int)) := ckO (by omega)
      have e11 : chk (11 + 3 * (i : Int)) = some (11 + 3 * (i : Int)) := ckO (by omega)
      obtain ⟨r', c1, c2⟩ := Make_j280 (x107 := x) (i := i) (v129 := v129) (a := r131) (b := r139) (m := q) (by omega) b8 b7 b10 b11 (by omega)
      obtain ⟨r, d1, d2, d3⟩ := Make_l241 hl n hn h8 h8' t (i + 1) (x ++ [r']) (by omega) (by simp; omega) (hr.snoc c1)
      refine ⟨r, d1, d2, fun K k hK hk => ?_⟩
      obtain ⟨k', rfl, _⟩ := fuel hk
      obtain ⟨s1, s2, s3⟩ := b13 K hK
      simp only [F_gantryref19_Make_l241, h8, oB, dT hlt, cT0, e3, e9, e10, e11, b1, b2, b3, b4, b5, b6, s1, s2, c2]
      exact d3 K k' hK (by omega)
    · refine ⟨x, hr, by omega, fun K k hK hk => ?_⟩
      obtain ⟨k', rfl, _⟩ := fuel hk
      simp only [F_gantryref19_Make_l241, h8, oB, dF hlt, cF0]
theorem Make_ok {l : List Int} (hl : I64s l) (rest : Bool) : ∃ s, ScOk s ∧ Ev (fun K => F_gantryref19_Make K l rest) s := by
  obtain ⟨v0, a1, a2, a3⟩ := At_ok hl 0 (m := 4) (by omega)
  obtain ⟨n, hn⟩ : ∃ n : Nat, 1 + v0 = (n : Int) := ⟨(1 + v0).toNat, by omega⟩
  have e1 : chk (1 + v0) = some (n : Int) := by rw [ckO (by omega), hn]
  obtain ⟨a, b, d, g1, g2, g3, g4, g5, g6, g7⟩ := Make_l87 hl (n := n) (by omega) n 0 [] [] [] (by omega) rfl rfl rfl (fun t h => absurd h List.not_mem_nil) (fun t h => absurd h List.not_mem_nil) (fun t h => absurd h List.not_mem_nil)
  obtain ⟨v5, b1, b2, b3⟩ := At_ok hl 5 (m := 3) (by omega)
  obtain ⟨v8, c1, c2, c3⟩ := At_ok hl 8 (m := 5) (by omega)
  obtain ⟨r, d1, d2, d3⟩ := Make_l241 hl n (by omega) c1 c3 4 0 [] rfl rfl RsB.nil
  obtain ⟨r', d1', d2', d3'⟩ := Make_l120 hl rest n (by omega) c1 c3 4 0 [] rfl rfl RsB.nil
  simp only [Int.natCast_zero] at g7 d3 d3'
  by_cases h5 : 0 < v5
  · cases rest
    · obtain ⟨v6, f1, f2, f3⟩ := At_ok hl 6 (m := 9) (by omega)
      obtain ⟨v7, f4, f5, f6⟩ := At_ok hl 7 (m := 3) (by omega)
      obtain ⟨q, q1, q2, q3⟩ := qof_bd (k := 8) (p := v6 - 4) (q := 1 + v7) (by omega) (by omega) (by omega) (by omega)
      have e2 : chk ((n : Int) - 1) = some ((n - 1 : Nat) : Int) := ckN (m := 0) (by omega) (by omega)
      have e3 : chk (v6 - 4) = some (v6 - 4) := ckO (by omega)
      have e4 : chk (1 + v7) = some (1 + v7) := ckO (by omega)
      refine ⟨⟨d, b, a.set (n - 1) q, r'⟩, ⟨by simp only; omega, by simp only; omega, g6, by simp only; omega, by simp only [List.length_set]; omega, g5, fun x hx => ?_, d1', d2'⟩, ⟨6 + n, fun K hK => ?_⟩⟩
      · rcases List.mem_or_eq_of_mem_set hx with h | h
        · exact g4 x h
        · rw [h]; exact q3
      · simp only [F_gantryref19_Make, a1, oB, e1, g7 K K (by omega), F_gantryref19_Make_j88, b1, dT h5, cT0, Bool.not_false, e2, f1, e3, f4, e4, q1, rdAt (l := a) (i := n - 1) (by omega), stG (xs := a) (i := n - 1) (v := q) (by omega), F_gantryref19_Make_j99, d3' K K (by omega) (by omega), F_gantryref19_Make_j121]
    · refine ⟨⟨d, b, a, r'⟩, ⟨by simp only; omega, by simp only; omega, g6, by simp only; omega, by simp only; omega, g5, g4, d1', d2'⟩, ⟨6 + n, fun K hK => ?_⟩⟩
      simp only [F_gantryref19_Make, a1, oB, e1, g7 K K (by omega), F_gantryref19_Make_j88, b1, dT h5, cT0, Bool.not_true, cF0, F_gantryref19_Make_j99, d3' K K (by omega) (by omega), F_gantryref19_Make_j121]
  · refine ⟨⟨d, b, a, r⟩, ⟨by simp only; omega, by simp only; omega, g6, by simp only; omega, by simp only; omega, g5, g4, d1, d2⟩, ⟨6 + n, fun K hK => ?_⟩⟩
    simp only [F_gantryref19_Make, a1, oB, e1, g7 K K (by omega), F_gantryref19_Make_j88, b1, dF h5, cF0, F_gantryref19_Make_j220, d3 K K (by omega) (by omega), F_gantryref19_Make_j242]
end Go.Proofs.YtkjnngaceacmdaaGreat
