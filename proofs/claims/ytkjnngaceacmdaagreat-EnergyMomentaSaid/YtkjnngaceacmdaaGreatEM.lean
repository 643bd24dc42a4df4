/- The law EnergyMomenta, without a program in sight. -/
import Derived.Test.YtkjnngaceacmdaaGreatLS
set_option linter.unusedVariables false
namespace Go.Proofs.YtkjnngaceacmdaaGreat

/-! ### Terms within -/
def inT (n : Nat) (t : api_Term) : Bool := decide (0 ≤ t.dof ∧ t.dof < (n : Int))
def inb (n : Nat) (l : List api_Term) : Bool := l.all (inT n)
theorem get_drop {α : Type} {l : List α} {i : Nat} (h : i < l.length) : ∃ x, x ∈ l ∧ l.drop i = x :: l.drop (i + 1) ∧ rdL l (i : Int) = some x :=
  ⟨l[i], List.getElem_mem h, List.drop_eq_getElem_cons h, rdG (List.getElem?_eq_getElem h)⟩
theorem rwithin_l3 {n : Nat} {l : List api_Term} (hl : l.length ≤ 1000) (K : Nat) : ∀ (t i k : Nat), i + t = l.length → t < k → F_gantryref21_within_l3 K l (n : Int) k (i : Int) = some (if inb n (l.drop i) then .go () else .ret false)
  | 0, i, k, hi, hk => by
    obtain ⟨k', rfl, _⟩ := fuel hk
    rw [drop_nil' (by omega)]
    simp only [F_gantryref21_within_l3, dF (show ¬ (i : Int) < (l.length : Int) by omega), cF0]
    rfl
  | t + 1, i, k, hi, hk => by
    obtain ⟨k', rfl, _⟩ := fuel hk
    obtain ⟨x, _, h2, h3⟩ := get_drop (l := l) (i := i) (by omega)
    rw [h2]
    simp only [F_gantryref21_within_l3, dT (show (i : Int) < (l.length : Int) by omega), cT0, h3, oB]
    unfold inb
    rw [List.all_cons]
    by_cases h0 : x.dof < 0
    · have : inT n x = false := decide_eq_false (by omega)
      simp only [dT h0, cT0, this, Bool.false_and]; rfl
    · by_cases h1 : (n : Int) ≤ x.dof
      · have : inT n x = false := decide_eq_false (by omega)
        simp only [dF h0, cF0, dT h1, cT0, this, Bool.false_and]; rfl
      · have : inT n x = true := decide_eq_true (by omega)
        simp only [dF h0, cF0, dF h1, this, Bool.true_and, ckS (i := i) (by omega), oB]
        exact rwithin_l3 hl K t (i + 1) k' (by omega) (by omega)
where drop_nil' {l : List api_Term} {i : Nat} (h : l.length ≤ i) : l.drop i = [] := List.drop_eq_nil_of_le h
theorem rwithin_ok {n : Nat} {l : List api_Term} (hl : l.length ≤ 1000) {K : Nat} (hK : l.length < K) : F_gantryref21_within K l (n : Int) = some (inb n l) := by
  have := rwithin_l3 (n := n) hl K l.length 0 K (by omega) hK
  simp only [Int.natCast_zero, List.drop_zero] at this
  simp only [F_gantryref21_within, this, oB]
  cases inb n l <;> rfl
theorem within_l3 {n : Nat} {l : List api_Term} (hl : l.length ≤ 1000) (K : Nat) : ∀ (t i k : Nat), i + t = l.length → t < k → (inb n (l.drop i) = true ∧ F_slices_IndexFunc_Term_l3 K l (F_energy_within_1 (n : Int)) k (i : Int) = some (.go ())) ∨ (inb n (l.drop i) = false ∧ ∃ y : Nat, F_slices_IndexFunc_Term_l3 K l (F_energy_within_1 (n : Int)) k (i : Int) = some (.ret (y : Int)))
  | 0, i, k, hi, hk => by
    obtain ⟨k', rfl, _⟩ := fuel hk
    refine .inl ⟨by rw [List.drop_eq_nil_of_le (by omega)]; rfl, ?_⟩
    simp only [F_slices_IndexFunc_Term_l3, dF (show ¬ (i : Int) < (l.length : Int) by omega), cF0]
  | t + 1, i, k, hi, hk => by
    obtain ⟨k', rfl, _⟩ := fuel hk
    obtain ⟨x, _, h2, h3⟩ := get_drop (l := l) (i := i) (by omega)
    rw [h2]
    simp only [F_slices_IndexFunc_Term_l3, dT (show (i : Int) < (l.length : Int) by omega), cT0, h3, oB, F_energy_within_1]
    unfold inb
    rw [List.all_cons]
    by_cases h0 : x.dof < 0
    · have : inT n x = false := decide_eq_false (by omega)
      exact .inr ⟨by rw [this]; rfl, i, by simp only [dT h0, cT0, oB]⟩
    · by_cases h1 : (n : Int) ≤ x.dof
      · have : inT n x = false := decide_eq_false (by omega)
        exact .inr ⟨by rw [this]; rfl, i, by simp only [dF h0, cF0, oB, dT h1, cT0]⟩
      · have : inT n x = true := decide_eq_true (by omega)
        simp only [dF h0, cF0, dF h1, oB, this, Bool.true_and, ckS (i := i) (by omega)]
        exact within_l3 hl K t (i + 1) k' (by omega) (by omega)
theorem within_ok {n : Nat} {l : List api_Term} (hl : l.length ≤ 1000) {K : Nat} (hK : l.length < K) : F_energy_within K l (n : Int) = some (inb n l) := by
  have := within_l3 (n := n) hl K l.length 0 K (by omega) hK
  simp only [Int.natCast_zero, List.drop_zero] at this
  rcases this with ⟨h1, h2⟩ | ⟨h1, y, h2⟩
  · simp only [F_energy_within, F_slices_ContainsFunc_Term, F_slices_IndexFunc_Term, h2, oB, F_slices_IndexFunc_Term_j4, h1]; rfl
  · simp only [F_energy_within, F_slices_ContainsFunc_Term, F_slices_IndexFunc_Term, h2, oB, h1, dT (show (0 : Int) ≤ (y : Int) by omega)]; rfl
theorem within_ev {n : Nat} {l : List api_Term} (hl : TB l) : Ev (fun K => F_energy_within K l (n : Int)) (inb n l) := ⟨l.length + 1, fun K hK => within_ok (by have := hl.1; omega) (by omega)⟩
theorem rwithin_ev {n : Nat} {l : List api_Term} (hl : TB l) : Ev (fun K => F_gantryref21_within K l (n : Int)) (inb n l) := ⟨l.length + 1, fun K hK => rwithin_ok (by have := hl.1; omega) (by omega)⟩
theorem inb_mem {n : Nat} {l : List api_Term} (h : inb n l = true) {t : api_Term} (ht : t ∈ l) : ∃ d : Nat, t.dof = (d : Int) ∧ d < n := by
  have h1 : inT n t = true := List.all_eq_true.1 h t ht
  have h2 := of_decide_eq_true h1
  exact ⟨t.dof.toNat, by omega, by omega⟩

/-! ### Momentum -/
def tm (l : List api_Term) (i : Nat) : api_Term := l.getD i ⟨0, 0⟩
theorem rdTm {l : List api_Term} {i : Nat} (h : i < l.length) : rdL l (i : Int) = some (tm l i) := rdD _ h
theorem tm_mem {l : List api_Term} {i : Nat} (h : i < l.length) : tm l i ∈ l := by
  unfold tm
  simp only [List.getD_eq_getElem?_getD, List.getElem?_eq_getElem h, Option.getD_some]
  exact List.getElem_mem h
def mf (d : List api_Dof) (v : List Rat) (l : List api_Term) (i : Nat) : Rat := (tm l i).k * at' v (tm l i).dof.toNat / (dof d (tm l i).dof.toNat).inv
theorem Momentum_ok {d : List api_Dof} {v : List Rat} {l : List api_Term} (hd : Dofs d) (hv : Bds 8 v) (hvl : v.length = d.length) (hl : TB l) (hi : inb d.length l = true) : Bd 1000 (sm (mf d v l) l.length) ∧ Ev (fun K => F_energy_Momentum K d v l) (sm (mf d v l) l.length, 0) := by
  have hacc : AccOk 24 ⟨(l.length : Int), F_energy_Momentum_1 l v d⟩ l.length (mf d v l) := by
    refine ⟨rfl, fun i h => ?_, fun i h => ?_⟩
    all_goals
      obtain ⟨e, e1, e2⟩ := inb_mem hi (tm_mem h)
      have hk := hl.2 _ (tm_mem h)
      have hx := hv _ (at_mem (l := v) (i := e) (by omega))
      have hq := (hd _ (dof_mem (d := d) (i := e) (by omega))).1
      have e3 : (tm l i).dof.toNat = e := by omega
    · simp only [F_energy_Momentum_1, rdTm h, oB, e1, rdAt (l := v) (i := e) (by omega), rdDof (d := d) (i := e) (by omega), qmul_ok hk hx (by omega) (by omega), qdiv_ok (hk.mul hx) hq (by omega) (by omega)]
      unfold mf
      rw [e3]
    · unfold mf
      rw [e3]
      exact ((hk.mul hx).div hq).mono (by omega)
  have h := sum_ok (c := 24) (N := 12) (l := [⟨(l.length : Int), F_energy_Momentum_1 l v d⟩]) (fs := [(l.length, mf d v l)]) ⟨hacc, hl.1, trivial⟩ (by omega) (by simp) (by simp)
  simp only [tot, Rat.zero_add, List.length_singleton] at h
  refine ⟨h.1.mono (by omega), ?_⟩
  unfold F_energy_Momentum
  refine Ev.bind (x := true) (hi ▸ within_ev hl) ?_
  simp only [Bool.not_true, cF0]
  exact Ev.bind h.2 (Ev.pure _)
theorem rMomentum_l11 {d : List api_Dof} {v : List Rat} {l : List api_Term} (hd : Dofs d) (hv : Bds 8 v) (hvl : v.length = d.length) (hl : TB l) (hi : inb d.length l = true) (K : Nat) : ∀ (t i k : Nat), i + t = l.length → t < k → Bd (1 + i * 25) (sm (mf d v l) i) → F_gantryref21_Momentum_l11 K d v l k (sm (mf d v l) i) (i : Int) = some (sm (mf d v l) l.length)
  | 0, i, k, hi, hk, hb => by
    obtain ⟨k', rfl, _⟩ := fuel hk
    have : i = l.length := by omega
    subst this
    simp only [F_gantryref21_Momentum_l11, dF (show ¬ (l.length : Int) < (l.length : Int) by omega), cF0]
  | t + 1, i, k, hi', hk, hb => by
    obtain ⟨k', rfl, _⟩ := fuel hk
    have h : i < l.length := by omega
    have h12 := hl.1
    obtain ⟨e, e1, e2⟩ := inb_mem hi (tm_mem h)
    have hk := hl.2 _ (tm_mem h)
    have hx := hv _ (at_mem (l := v) (i := e) (by omega))
    have hq := (hd _ (dof_mem (d := d) (i := e) (by omega))).1
    have e3 : (tm l i).dof.toNat = e := by omega
    have em : (tm l i).k * (at' v e / (dof d e).inv) = mf d v l i := by
      unfold mf
      rw [e3, Rat.div_def, Rat.div_def, Rat.mul_assoc]
    have hm : Bd 24 (mf d v l i) := by rw [← em]; exact (hk.mul (hx.div hq)).mono (by omega)
    simp only [F_gantryref21_Momentum_l11, dT (show (i : Int) < (l.length : Int) by omega), cT0, rdTm h, oB, e1, rdAt (l := v) (i := e) (by omega), rdDof (d := d) (i := e) (by omega), qdiv_ok hx hq (by omega) (by omega), qmul_ok hk (hx.div hq) (by omega) (by omega), em, qadd_ok hb hm (by omega) (by omega), ckS (i := i) (by omega)]
    exact rMomentum_l11 hd hv hvl hl hi K t (i + 1) k' (by omega) (by omega) ((hb.add hm).mono (by omega))
theorem rMomentum_ok {d : List api_Dof} {v : List Rat} {l : List api_Term} (hd : Dofs d) (hv : Bds 8 v) (hvl : v.length = d.length) (hl : TB l) (hi : inb d.length l = true) : Ev (fun K => F_gantryref21_Momentum K d v l) (sm (mf d v l) l.length, 0) := by
  unfold F_gantryref21_Momentum
  refine Ev.bind (x := true) (hi ▸ rwithin_ev hl) ?_
  simp only [Bool.not_true, cF0]
  refine Ev.bind (x := sm (mf d v l) l.length) (f := fun K => F_gantryref21_Momentum_l11 K d v l K 0 0) ⟨l.length + 1, fun K hK => ?_⟩ (Ev.pure _)
  have := rMomentum_l11 hd hv hvl hl hi K l.length 0 K (by omega) (by omega) (Bd.zero.mono (by omega))
  simpa only [Int.natCast_zero, sm] using this
theorem Momentum_out {d : List api_Dof} {v : List Rat} {l : List api_Term} (hl : TB l) (hi : inb d.length l = false) : Ev (fun K => F_energy_Momentum K d v l) (0, 1) ∧ Ev (fun K => F_gantryref21_Momentum K d v l) (0, 1) := by
  have := hl.1
  constructor
  · unfold F_energy_Momentum
    refine Ev.bind (x := false) (hi ▸ within_ev hl) ?_
    simp only [Bool.not_false, cT0]
    exact Ev.pure _
  · unfold F_gantryref21_Momentum
    refine Ev.bind (x := false) (hi ▸ rwithin_ev hl) ?_
    simp only [Bool.not_false, cT0]
    exact Ev.pure _

/-! ### Factors -/
/-- The factors of the first m terms. -/
def fac (l : List api_Term) : Nat → Nat → Rat
  | 0 => fun _ => 0
  | m + 1 => upd (fac l m) (tm l m).dof.toNat (fac l m (tm l m).dof.toNat + (tm l m).k)
theorem fac_bd {l : List api_Term} (hl : TB l) : ∀ m, m ≤ l.length → ∀ c, Bd (1 + m * 9) (fac l m c)
  | 0, _, c => Bd.zero.mono (by omega)
  | m + 1, hm, c => by
    unfold fac upd
    split
    · exact ((fac_bd hl m (by omega) _).add (hl.2 _ (tm_mem (by omega)))).mono (by omega)
    · exact (fac_bd hl m (by omega) c).mono (by omega)
theorem factors_l26 {l : List api_Term} {n : Nat} (hl : TB l) (hi : inb n l = true) (K : Nat) : ∀ (t i k : Nat), i + t = l.length → t < k → F_gantryref21_factors_l26 K l k (mp (fac l i) n) (i : Int) = some (mp (fac l l.length) n)
  | 0, i, k, hi, hk => by
    obtain ⟨k', rfl, _⟩ := fuel hk
    have : i = l.length := by omega
    subst this
    simp only [F_gantryref21_factors_l26, dF (show ¬ (l.length : Int) < (l.length : Int) by omega), cF0]
  | t + 1, i, k, hi', hk => by
    obtain ⟨k', rfl, _⟩ := fuel hk
    have h : i < l.length := by omega
    have h12 := hl.1
    obtain ⟨e, e1, e2⟩ := inb_mem hi (tm_mem h)
    have hk := hl.2 _ (tm_mem h)
    have hf := fac_bd hl i (by omega) e
    have ih := factors_l26 hl hi K t (i + 1) k' (by omega) (by omega)
    have e3 : (tm l i).dof.toNat = e := by omega
    simp only [fac, e3] at ih
    simp only [F_gantryref21_factors_l26, dT (show (i : Int) < (l.length : Int) by omega), cT0, rdTm h, oB, e1, rdMp (f := fac l i) e2, qadd_ok hf hk (by omega) (by omega), stMp (f := fac l i) e2, ckS (i := i) (by omega)]
    exact ih
theorem factors_ok {l : List api_Term} {n : Nat} (hl : TB l) (hn : n ≤ 1000) (hi : inb n l = true) {K : Nat} (hK : l.length < K) : F_gantryref21_factors K l (n : Int) = some (mp (fac l l.length) n) := by
  have := factors_l26 hl hi K l.length 0 K (by omega) hK
  simp only [Int.natCast_zero, fac] at this
  simp only [F_gantryref21_factors, mkMp (n := n) (z := (0 : Rat)) (by omega), oB, this, F_gantryref21_factors_j27]
theorem add_l32 {l : List api_Term} {n : Nat} (hl : TB l) (hi : inb n l = true) (K : Nat) : ∀ (t i k : Nat), i + t = l.length → t < k → F_energy_Kept_1_l32 K l k (mp (fac l i) n) (i : Int) = some (mp (fac l l.length) n)
  | 0, i, k, hi, hk => by
    obtain ⟨k', rfl, _⟩ := fuel hk
    have : i = l.length := by omega
    subst this
    simp only [F_energy_Kept_1_l32, dF (show ¬ (l.length : Int) < (l.length : Int) by omega), cF0]
  | t + 1, i, k, hi', hk => by
    obtain ⟨k', rfl, _⟩ := fuel hk
    have h : i < l.length := by omega
    have h12 := hl.1
    obtain ⟨e, e1, e2⟩ := inb_mem hi (tm_mem h)
    have hk := hl.2 _ (tm_mem h)
    have hf := fac_bd hl i (by omega) e
    have ih := add_l32 hl hi K t (i + 1) k' (by omega) (by omega)
    have e3 : (tm l i).dof.toNat = e := by omega
    simp only [fac, e3] at ih
    simp only [F_energy_Kept_1_l32, dT (show (i : Int) < (l.length : Int) by omega), cT0, rdTm h, oB, e1, rdMp (f := fac l i) e2, qadd_ok hf hk (by omega) (by omega), stMp (f := fac l i) e2, ckS (i := i) (by omega)]
    exact ih
theorem add_ok {l : List api_Term} {n : Nat} {m : List (List Rat)} (hl : TB l) (hn : n ≤ 1000) (hm : m.length ≤ 1000) (hi : inb n l = true) {K : Nat} (hK : l.length < K) : F_energy_Kept_1 K (n : Int) m l = some (m ++ [mp (fac l l.length) n]) := by
  have := add_l32 hl hi K l.length 0 K (by omega) hK
  simp only [Int.natCast_zero, fac] at this
  simp only [F_energy_Kept_1, mkMp (n := n) (z := (0 : Rat)) (by omega), oB, this, F_energy_Kept_1_j33, apS (xs := m) (x := mp (fac l l.length) n) (by omega)]

/-! ### Kept -/
/-- The rows of the matrix, if all terms are within. -/
def mats (n : Nat) : List api_Row → Option (List (List Rat))
  | [] => some []
  | r :: l => if inb n r.j = true ∧ inb n r.t = true then (mats n l).map fun m => (mp (fac r.j r.j.length) n :: if r.t.length = 0 then m else mp (fac r.t r.t.length) n :: m) else none
theorem mats_bd {n : Nat} : ∀ {l : List api_Row} {m : List (List Rat)}, RsB l → mats n l = some m → m.length ≤ 2 * l.length ∧ ∀ r ∈ m, Bds 110 r ∧ r.length = n
  | [], m, _, h => by
    simp only [mats, Option.some.injEq] at h
    subst h
    exact ⟨by simp, fun r hr => absurd hr List.not_mem_nil⟩
  | x :: l, m, hl, h => by
    unfold mats at h
    split at h
    · have hx := hl x List.mem_cons_self
      have hjr : Bds 110 (mp (fac x.j x.j.length) n) := mp_bds fun i _ => (fac_bd hx.1 _ (Nat.le_refl _) i).mono (by have := hx.1.1; omega)
      have htr : Bds 110 (mp (fac x.t x.t.length) n) := mp_bds fun i _ => (fac_bd hx.2 _ (Nat.le_refl _) i).mono (by have := hx.2.1; omega)
      obtain ⟨m', h1, h2⟩ := Option.map_eq_some_iff.1 h
      have ih := mats_bd (fun r hr => hl r (List.mem_cons_of_mem _ hr)) h1
      subst h2
      refine ⟨?_, fun r hr => ?_⟩
      · split <;> simp only [List.length_cons] <;> omega
      · rcases List.mem_cons.1 hr with hr | hr
        · rw [hr]; exact ⟨hjr, mp_len _ _⟩
        · split at hr
          · exact ih.2 r hr
          · rcases List.mem_cons.1 hr with hr | hr
            · rw [hr]; exact ⟨htr, mp_len _ _⟩
            · exact ih.2 r hr
    · exact absurd h (by simp)
theorem rMatrix_l29 {n : Nat} {l : List api_Row} (hl : RsB l) (hn : n ≤ 100) (hll : l.length ≤ 200) {K : Nat} (hK : 12 < K) : ∀ (t i k : Nat) (x : List (List Rat)), i + t = l.length → t < k → x.length ≤ 1 + 2 * i → F_gantryref21_Matrix_l29 K (n : Int) l k x (i : Int) = some (match mats n (l.drop i) with | none => .ret ([], false) | some m => .go (x ++ m))
  | 0, i, k, x, hi, hk, hx => by
    obtain ⟨k', rfl, _⟩ := fuel hk
    rw [List.drop_eq_nil_of_le (by omega)]
    simp only [F_gantryref21_Matrix_l29, dF (show ¬ (i : Int) < (l.length : Int) by omega), cF0, mats, List.append_nil]
  | t + 1, i, k, x, hi, hk, hx => by
    obtain ⟨k', rfl, _⟩ := fuel hk
    obtain ⟨r, h1, h2, h3⟩ := get_drop (l := l) (i := i) (by omega)
    have hr := hl r h1
    have j12 := hr.1.1
    have t12 := hr.2.1
    rw [h2]
    unfold mats
    simp only [F_gantryref21_Matrix_l29, dT (show (i : Int) < (l.length : Int) by omega), cT0, h3, oB, rwithin_ok (n := n) (l := r.j) (by omega) (K := K) (by omega), rwithin_ok (n := n) (l := r.t) (by omega) (K := K) (by omega)]
    cases hj : inb n r.j
    · simp only [Bool.not_false, cT0]
      rw [if_neg (by simp)]
    · simp only [Bool.not_true, cF0]
      cases ht : inb n r.t
      · simp only [Bool.not_false, cT0]
        rw [if_neg (by simp)]
      · rw [if_pos ⟨trivial, rfl⟩]
        simp only [Bool.not_true, cF0, factors_ok hr.1 (show n ≤ 1000 by omega) hj (K := K) (by omega), oB, apS (xs := x) (x := mp (fac r.j r.j.length) n) (by omega)]
        by_cases h0 : r.t.length = 0
        · simp only [dF (show ¬ (0 < (r.t.length : Int)) by omega), cF0, ckS (i := i) (by omega), oB]
          rw [rMatrix_l29 hl hn hll hK t (i + 1) k' (x ++ [mp (fac r.j r.j.length) n]) (by omega) (by omega) (by simp; omega)]
          cases mats n (l.drop (i + 1)) with
          | none => rfl
          | some m => simp only [Option.map_some, if_pos h0, List.append_assoc, List.singleton_append]
        · simp only [dT (show (0 < (r.t.length : Int)) by omega), cT0, factors_ok hr.2 (show n ≤ 1000 by omega) ht (K := K) (by omega), oB, apS (xs := x ++ [mp (fac r.j r.j.length) n]) (x := mp (fac r.t r.t.length) n) (by simp; omega), ckS (i := i) (by omega)]
          rw [rMatrix_l29 hl hn hll hK t (i + 1) k' (x ++ [mp (fac r.j r.j.length) n] ++ [mp (fac r.t r.t.length) n]) (by omega) (by omega) (by simp; omega)]
          cases mats n (l.drop (i + 1)) with
          | none => rfl
          | some m => simp only [Option.map_some, if_neg h0, List.append_assoc, List.cons_append, List.nil_append]
theorem Kept_l31 {d : List api_Dof} {l : List api_Row} (hl : RsB l) (hn : d.length ≤ 100) (hll : l.length ≤ 200) {K : Nat} (hK : 12 < K) : ∀ (t i k : Nat) (x : List (List Rat)), i + t = l.length → t < k → x.length ≤ 1 + 2 * i → F_energy_Kept_l31 K d l k x (i : Int) = some (match mats d.length (l.drop i) with | none => .ret ([], 1) | some m => .go (x ++ m))
  | 0, i, k, x, hi, hk, hx => by
    obtain ⟨k', rfl, _⟩ := fuel hk
    rw [List.drop_eq_nil_of_le (by omega)]
    simp only [F_energy_Kept_l31, dF (show ¬ (i : Int) < (l.length : Int) by omega), cF0, mats, List.append_nil]
  | t + 1, i, k, x, hi, hk, hx => by
    obtain ⟨k', rfl, _⟩ := fuel hk
    obtain ⟨r, h1, h2, h3⟩ := get_drop (l := l) (i := i) (by omega)
    have hr := hl r h1
    have j12 := hr.1.1
    have t12 := hr.2.1
    rw [h2]
    unfold mats
    simp only [F_energy_Kept_l31, dT (show (i : Int) < (l.length : Int) by omega), cT0, h3, oB, within_ok (n := d.length) (l := r.j) (by omega) (K := K) (by omega), within_ok (n := d.length) (l := r.t) (by omega) (K := K) (by omega)]
    cases hj : inb d.length r.j
    · simp only [Bool.not_false, cT0]
      rw [if_neg (by simp)]
    · simp only [Bool.not_true, cF0]
      cases ht : inb d.length r.t
      · simp only [Bool.not_false, cT0]
        rw [if_neg (by simp)]
      · rw [if_pos ⟨trivial, rfl⟩]
        simp only [Bool.not_true, cF0, add_ok hr.1 (show d.length ≤ 1000 by omega) (m := x) (by omega) hj (K := K) (by omega), oB]
        by_cases h0 : r.t.length = 0
        · simp only [dF (show ¬ (0 < (r.t.length : Int)) by omega), cF0, ckS (i := i) (by omega), oB]
          rw [Kept_l31 hl hn hll hK t (i + 1) k' (x ++ [mp (fac r.j r.j.length) d.length]) (by omega) (by omega) (by simp; omega)]
          cases mats d.length (l.drop (i + 1)) with
          | none => rfl
          | some m => simp only [Option.map_some, if_pos h0, List.append_assoc, List.singleton_append]
        · simp only [dT (show (0 < (r.t.length : Int)) by omega), cT0, add_ok hr.2 (show d.length ≤ 1000 by omega) (m := x ++ [mp (fac r.j r.j.length) d.length]) (by simp; omega) ht (K := K) (by omega), oB, ckS (i := i) (by omega)]
          rw [Kept_l31 hl hn hll hK t (i + 1) k' (x ++ [mp (fac r.j r.j.length) d.length] ++ [mp (fac r.t r.t.length) d.length]) (by omega) (by omega) (by simp; omega)]
          cases mats d.length (l.drop (i + 1)) with
          | none => rfl
          | some m => simp only [Option.map_some, if_neg h0, List.append_assoc, List.cons_append, List.nil_append]
/-- A matrix is what its numbers say. -/
theorem mx_own {M : List (List Rat)} {w : Nat} (h : ∀ r ∈ M, r.length = w) : M = mx (fun i => at' (M.getD i [])) M.length w := by
  unfold mx
  apply List.ext_getElem?
  intro j
  by_cases hj : j < M.length
  · rw [mp_get hj]
    have e : M.getD j [] = M[j] := by rw [List.getD_eq_getElem?_getD, List.getElem?_eq_getElem hj]; rfl
    rw [List.getElem?_eq_getElem hj]
    show some M[j] = some (mp (at' (M.getD j [])) w)
    rw [e]
    have := mp_own M[j]
    rw [h _ (List.getElem_mem hj)] at this
    exact congrArg some this
  · rw [List.getElem?_eq_none (by omega), List.getElem?_eq_none (by simp [mp]; omega)]
theorem Bdx_own {M : List (List Rat)} {w b : Nat} (h : ∀ r ∈ M, Bds b r ∧ r.length = w) : Bdx M.length w b (fun i => at' (M.getD i [])) := fun i c hi hc => by
  have e : M.getD i [] = M[i] := by rw [List.getD_eq_getElem?_getD, List.getElem?_eq_getElem hi]; rfl
  show Bd b (at' (M.getD i []) c)
  rw [e]
  have := h _ (List.getElem_mem hi)
  exact this.1 _ (at_mem (by rw [this.2]; exact hc))
theorem Kept_ok {d : List api_Dof} {l : List api_Row} (hn1 : 1 ≤ d.length) (hn : d.length ≤ 4) (hl : RsB l) (hll : l.length ≤ 200) : ∃ out e, (∀ r ∈ out, Bds 1000000 r ∧ r.length ≤ 1000) ∧ out.length ≤ 1000 ∧ Ev (fun K => F_energy_Kept K d l) (out, e) ∧ Ev (fun K => F_gantryref21_Kept K d l) (out, e) := by
  have hA : ∀ K, l.length + 13 < K → _ := fun K hK => Kept_l31 (d := d) hl (by omega) hll (K := K) (by omega) l.length 0 K [mp (fun _ => 0) d.length] (by omega) (by omega) (by simp)
  have hB : ∀ K, l.length + 13 < K → _ := fun K hK => rMatrix_l29 (n := d.length) hl (by omega) hll (K := K) (by omega) l.length 0 K [mp (fun _ => 0) d.length] (by omega) (by omega) (by simp)
  simp only [Int.natCast_zero, List.drop_zero] at hA hB
  have hz : mkL (d.length : Int) (0 : Rat) = some (mp (fun _ => 0) d.length) := mkMp (by omega)
  cases hm : mats d.length l with
  | none =>
    simp only [hm] at hA hB
    refine ⟨[], 1, fun r hr => absurd hr List.not_mem_nil, by simp, ⟨l.length + 14, fun K hK => ?_⟩, ⟨l.length + 14, fun K hK => ?_⟩⟩
    · simp only [F_energy_Kept, hz, oB, hA K (by omega)]
    · simp only [F_gantryref21_Kept, F_gantryref21_Matrix, hz, oB, hB K (by omega), Bool.not_false, cT0]
  | some m =>
    simp only [hm] at hA hB
    have hmb := mats_bd hl hm
    have hM : ∀ r ∈ [mp (fun _ => (0 : Rat)) d.length] ++ m, Bds 110 r ∧ r.length = d.length := fun r hr => by
      rcases List.mem_append.1 hr with hr | hr
      · rw [List.mem_singleton.1 hr]; exact ⟨mp_bds fun i _ => Bd.zero.mono (by omega), mp_len _ _⟩
      · exact hmb.2 r hr
    generalize hMM : [mp (fun _ => (0 : Rat)) d.length] ++ m = M at *
    by_cases h64 : (64 : Int) < (M.length : Int)
    · refine ⟨[], 4, fun r hr => absurd hr List.not_mem_nil, by simp, ⟨l.length + 14, fun K hK => ?_⟩, ⟨l.length + 14, fun K hK => ?_⟩⟩
      · simp only [F_energy_Kept, hz, oB, hA K (by omega), F_energy_Kept_j32, dT h64, cT0]
      · simp only [F_gantryref21_Kept, F_gantryref21_Matrix, hz, oB, hB K (by omega), F_gantryref21_Matrix_j30, Bool.not_true, cF0, dT h64, cT0]
    · have h1 : 1 ≤ M.length := by rw [← hMM]; simp
      have hc : Cok M.length d.length := fun h => by omega
      have hg := Bdx_own hM
      have h5 : 5 ^ d.length ≤ 5 ^ 4 := Nat.pow_le_pow_right (by omega) hn
      have hB' : 5 ^ d.length * 110 ≤ 200000000 := by omega
      have k1 := fun K (hK : d.length + M.length < K) => Kernel_ok hg hc (by omega) hB' (by omega) (by omega) hK
      have k2 := fun K (hK : d.length + M.length < K) => rKernel_ok hg hc (by omega) hB' (by omega) (by omega) hK
      rw [← mx_own fun r hr => (hM r hr).2] at k1 k2
      have r := red_ok hg (by omega) d.length (Nat.le_refl _)
      refine ⟨kerL (red (fun i => at' (M.getD i [])) M.length d.length) d.length d.length, 0, fun r' hr => ⟨fun x hx => (kerL_bd r.bd (pow_pos5 _ _ (by omega)) r.ph d.length (Nat.le_refl _) r' hr x hx).mono (by omega), by rw [kerL_row _ r' hr]; omega⟩, Nat.le_trans (kerL_len _ _ _) (by omega), ⟨l.length + 14 + M.length + 5, fun K hK => ?_⟩, ⟨l.length + 14 + M.length + 5, fun K hK => ?_⟩⟩
      · simp only [F_energy_Kept, hz, oB, hA K (by omega), F_energy_Kept_j32, dF h64, cF0, k1 K (by omega)]
      · simp only [F_gantryref21_Kept, F_gantryref21_Matrix, hz, oB, hB K (by omega), F_gantryref21_Matrix_j30, Bool.not_true, cF0, dF h64, k2 K (by omega)]

/-! ### The law -/
theorem EM_l26 {m : List Int} (hm : I64s m) {n v : Int} (hv : F_gantryref01_Around n 6 = some v) (hv' : v < 6) : ∀ (t i : Nat) (x : List api_Term), i + t = 6 → x.length = i → (∀ t ∈ x, Bd 8 t.k) →
    ∃ r, TB r ∧ ∀ K k, t < k → F_gantrylaw21_EnergyMomenta_l26 K m n k x (i : Int) = some r
  | 0, i, x, hi, hx, hb => ⟨x, ⟨by omega, hb⟩, fun K k hk => by
    obtain ⟨k', rfl, _⟩ := fuel hk
    simp only [F_gantrylaw21_EnergyMomenta_l26, hv, oB, dF (show ¬ (i : Int) < v by omega), cF0]⟩
  | t + 1, i, x, hi, hx, hb => by
    by_cases hlt : (i : Int) < v
    · obtain ⟨a, a1, a2, a3⟩ := At_ok hm (2 * (i : Int)) (m := 9) (by omega)
      obtain ⟨b, b1, b2, b3⟩ := At_ok hm (2 * (i : Int) + 1) (m := 1073741824) (by omega)
      obtain ⟨q, q1, q2⟩ := Small_ok (x := b) (by omega)
      have e1 : chk (2 * (i : Int)) = some (2 * (i : Int)) := ckO (by omega)
      have e2 : chk (2 * (i : Int) + 1) = some (2 * (i : Int) + 1) := ckO (by omega)
      have e3 : chk (a - 1) = some (a - 1) := ckO (by omega)
      obtain ⟨r, r1, r2⟩ := EM_l26 hm hv hv' t (i + 1) (x ++ [⟨a - 1, q⟩]) (by omega) (by simp; omega) (fun t ht => by
        rcases List.mem_append.1 ht with h | h
        · exact hb t h
        · rw [List.mem_singleton.1 h]; exact q2)
      refine ⟨r, r1, fun K k hk => ?_⟩
      obtain ⟨k', rfl, _⟩ := fuel hk
      simp only [F_gantrylaw21_EnergyMomenta_l26, hv, oB, dT hlt, cT0, e1, a1, e3, e2, b1, q1, apS (xs := x) (x := (⟨a - 1, q⟩ : api_Term)) (by omega), ckS (i := i) (by omega)]
      exact r2 K k' (by omega)
    · refine ⟨x, ⟨by omega, hb⟩, fun K k hk => ?_⟩
      obtain ⟨k', rfl, _⟩ := fuel hk
      simp only [F_gantrylaw21_EnergyMomenta_l26, hv, oB, dF hlt, cF0]
theorem EM_l48 {n v : Int} (hv : F_gantryref01_Around n 4 = some v) (h0 : 0 ≤ v) (hv' : v < 4) : ∀ (t : Nat) (x : List api_Row), x.length + t = 70 → RsB x →
    ∃ r, RsB r ∧ r.length ≤ 70 ∧ ∀ K k, t < k → F_gantrylaw21_EnergyMomenta_l48 K n k x = some r
  | 0, x, hx, hb => ⟨x, hb, by omega, fun K k hk => by
    obtain ⟨k', rfl, _⟩ := fuel hk
    have e1 : chk (62 + v) = some (62 + v) := ckO (by omega)
    simp only [F_gantrylaw21_EnergyMomenta_l48, hv, oB, e1, dF (show ¬ (x.length : Int) < 62 + v by omega), cF0]⟩
  | t + 1, x, hx, hb => by
    have e1 : chk (62 + v) = some (62 + v) := ckO (by omega)
    by_cases hlt : (x.length : Int) < 62 + v
    · have hr : RB ⟨0, 0, 0, 0, 0, [⟨0, 1⟩], [], 0, 0⟩ := ⟨⟨by simp, fun t ht => by rw [List.mem_singleton.1 ht]; exact (show Bd 2 1 by constructor <;> decide).mono (by omega)⟩, TB.nil⟩
      obtain ⟨r, r1, r2, r3⟩ := EM_l48 hv h0 hv' t (x ++ [⟨0, 0, 0, 0, 0, [⟨0, 1⟩], [], 0, 0⟩]) (by simp; omega) (hb.snoc hr)
      refine ⟨r, r1, r2, fun K k hk => ?_⟩
      obtain ⟨k', rfl, _⟩ := fuel hk
      have e2 : apL ([] : List api_Row) x = some x := by rw [apL_ok (by rw [List.length_nil]; omega), List.nil_append]
      simp only [F_gantrylaw21_EnergyMomenta_l48, hv, oB, e1, dT hlt, cT0, e2, qof11, apS (xs := x) (x := (⟨0, 0, 0, 0, 0, [⟨0, 1⟩], [], 0, 0⟩ : api_Row)) (by omega)]
      exact r3 K k' (by omega)
    · refine ⟨x, hb, by omega, fun K k hk => ?_⟩
      obtain ⟨k', rfl, _⟩ := fuel hk
      simp only [F_gantrylaw21_EnergyMomenta_l48, hv, oB, e1, dF hlt, cF0]
theorem EM_l62 {s : gantryref19_Scene} {a b : List api_Row} (hs : ScOk s) (h : ∀ l ∈ [s.rows, a, b, []], RsB l ∧ l.length ≤ 200) : ∀ (t i : Nat), i + t = 4 → ∃ N, ∀ K k, N ≤ K → t < k → F_gantrylaw21_EnergyMomenta_l62 K s a b k (i : Int) = some (.go ())
  | 0, i, hi => ⟨0, fun K k _ hk => by
    obtain ⟨k', rfl, _⟩ := fuel hk
    simp only [F_gantrylaw21_EnergyMomenta_l62, dF (show ¬ (i : Int) < 4 by omega), cF0]⟩
  | t + 1, i, hi => by
    obtain ⟨l, l1, _, l2⟩ := rdM (xs := [s.rows, a, b, []]) (i := i) (by simp; omega)
    obtain ⟨hl, hll⟩ := h l l1
    obtain ⟨out, e, o1, o2, ⟨N1, p1⟩, ⟨N2, p2⟩⟩ := Kept_ok hs.n1 hs.n4 hl hll
    obtain ⟨N, ih⟩ := EM_l62 hs h t (i + 1) (by omega)
    refine ⟨N + N1 + N2 + 1001, fun K k hK hk => ?_⟩
    obtain ⟨k', rfl, _⟩ := fuel hk
    simp only [F_gantrylaw21_EnergyMomenta_l62, dT (show (i : Int) < 4 by omega), cT0, l2, oB, p1 K (by omega), p2 K (by omega), nF (rfl : e = e), cF0, Same_ok o1 (by omega) o2 (K := K) (by omega), Bool.not_true, ckS (i := i) (by omega)]
    exact ih K k' (by omega) (by omega)
theorem EnergyMomenta_pure {a0 a1 : List Int} {a2 a3 : Int} (h0 : I64s a0) (h1 : I64s a1) (h2 : -9223372036854775808 ≤ a2 ∧ a2 ≤ 9223372036854775807) (h3 : -9223372036854775808 ≤ a3 ∧ a3 ≤ 9223372036854775807) : ∃ K, F_gantrylaw21_EnergyMomenta K a0 a1 a2 a3 = some true := by
  obtain ⟨s, hs, he⟩ := Make_ok h0 false
  obtain ⟨v, v1, v2, v3⟩ := Around_ok h2 (m := 6) (by omega)
  obtain ⟨w, w1, w2, w3⟩ := Around_ok h3 (m := 4) (by omega)
  obtain ⟨ts, t1, t2⟩ := EM_l26 h1 v1 v3 6 0 [] rfl rfl (fun t h => absurd h List.not_mem_nil)
  obtain ⟨lots, o1, o2, o3⟩ := EM_l48 w1 w2 w3 (70 - s.rows.length) s.rows (by have := hs.rl; omega) hs.rows
  refine (?_ : Ev (fun K => F_gantrylaw21_EnergyMomenta K a0 a1 a2 a3) true).get
  unfold F_gantrylaw21_EnergyMomenta
  refine Ev.bind he (Ev.bind (x := ts) (f := fun K => F_gantrylaw21_EnergyMomenta_l26 K a1 a2 K [] 0) ⟨7, fun K hK => ?_⟩ ?_)
  · have := t2 K K (by omega)
    simpa only [Int.natCast_zero] using this
  have hrl := hs.rl
  have e1 : apL ([] : List api_Row) s.rows = some s.rows := by rw [apL_ok (by rw [List.length_nil]; omega), List.nil_append]
  have e2 : apL s.rows [(⟨0, 0, 0, 0, 0, ts, ([] : List api_Term), 0, 0⟩ : api_Row), (⟨0, 0, 0, 0, 0, ([] : List api_Term), ts, 0, 0⟩ : api_Row)] = some (s.rows ++ [⟨0, 0, 0, 0, 0, ts, [], 0, 0⟩, ⟨0, 0, 0, 0, 0, [], ts, 0, 0⟩]) := apL_ok (by simp only [List.length_cons, List.length_nil]; omega)
  simp only [F_gantrylaw21_EnergyMomenta_j27, e1, e2, oB]
  refine Ev.bind (x := lots) (f := fun K => F_gantrylaw21_EnergyMomenta_l48 K a3 K s.rows) ⟨71, fun K hK => o3 K K (by omega)⟩ ?_
  have hfin : ∀ p : Rat × Int, Bd 1000 p.1 → Ev (fun K => F_energy_Momentum K s.dofs s.v ts) p → Ev (fun K => F_gantryref21_Momentum K s.dofs s.v ts) p → Ev (fun K => F_gantrylaw21_EnergyMomenta_j49 K s ts (s.rows ++ [⟨0, 0, 0, 0, 0, ts, [], 0, 0⟩, ⟨0, 0, 0, 0, 0, [], ts, 0, 0⟩]) lots) true := fun p hb m1 m2 => by
    unfold F_gantrylaw21_EnergyMomenta_j49
    refine Ev.bind m1 (Ev.bind m2 ?_)
    simp only [nF (rfl : p.2 = p.2), cF0, qsame_ok hb hb (by omega) (by omega), decide_true, oB, Bool.not_true]
    refine Ev.bind (x := .go ()) (f := fun K => F_gantrylaw21_EnergyMomenta_l62 K s (s.rows ++ [⟨0, 0, 0, 0, 0, ts, [], 0, 0⟩, ⟨0, 0, 0, 0, 0, [], ts, 0, 0⟩]) lots K 0) ?_ ?_
    · obtain ⟨N, hN⟩ := EM_l62 (a := s.rows ++ [⟨0, 0, 0, 0, 0, ts, [], 0, 0⟩, ⟨0, 0, 0, 0, 0, [], ts, 0, 0⟩]) (b := lots) hs (fun l hl => by
        simp only [List.mem_cons, List.not_mem_nil, or_false] at hl
        rcases hl with rfl | rfl | rfl | rfl
        · exact ⟨hs.rows, by omega⟩
        · refine ⟨fun r hr => ?_, by simp; omega⟩
          rcases List.mem_append.1 hr with hr | hr
          · exact hs.rows r hr
          · simp only [List.mem_cons, List.not_mem_nil, or_false] at hr
            rcases hr with rfl | rfl
            · exact ⟨t1, TB.nil⟩
            · exact ⟨TB.nil, t1⟩
        · exact ⟨o1, by omega⟩
        · exact ⟨RsB.nil, by simp⟩) 4 0 rfl
      exact ⟨N + 5, fun K hK => by have := hN K K (by omega) (by omega); simpa only [Int.natCast_zero] using this⟩
    · exact Ev.bind lives21_ok (Ev.pure _)
  cases hi : inb s.dofs.length ts
  · exact hfin (0, 1) (Bd.zero.mono (by omega)) (Momentum_out t1 hi).1 (Momentum_out t1 hi).2
  · obtain ⟨b1, b2⟩ := Momentum_ok hs.dofs hs.v hs.vl t1 hi
    exact hfin _ b1 b2 (rMomentum_ok hs.dofs hs.v hs.vl t1 hi)
end Go.Proofs.YtkjnngaceacmdaaGreat
