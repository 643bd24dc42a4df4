/- The law EnergyFree, without a program in sight. -/
import Derived.Test.YtkjnngaceacmdaaGreatL4
set_option linter.unusedVariables false
namespace Go.Proofs.YtkjnngaceacmdaaGreat

/-- A list that is made element by element. -/
def mp (g : Nat → Rat) (n : Nat) : List Rat := (List.range n).map g
theorem mp_zero (g : Nat → Rat) : mp g 0 = [] := rfl
theorem mp_succ (g : Nat → Rat) (n : Nat) : mp g (n + 1) = mp g n ++ [g n] := by unfold mp; rw [List.range_succ, List.map_append]; rfl
theorem mp_len (g : Nat → Rat) (n : Nat) : (mp g n).length = n := by simp [mp]
theorem mp_at {g : Nat → Rat} {n i : Nat} (h : i < n) : at' (mp g n) i = g i := by
  unfold at' mp
  simp [List.getD_eq_getElem?_getD, h]
theorem mp_bds {g : Nat → Rat} {n k : Nat} (h : ∀ i, i < n → Bd k (g i)) : Bds k (mp g n) := fun x hx => by
  obtain ⟨i, hi, rfl⟩ := List.mem_map.1 hx
  exact h i (List.mem_range.1 hi)
theorem apM {g : Nat → Rat} {i : Nat} (h : i ≤ 1000000) : apL (mp g i) [g i] = some (mp g (i + 1)) := by rw [mp_succ]; exact apS (by rw [mp_len]; omega)
def gAll (d : List api_Dof) (l : List Rat) (i : Nat) : Rat := (dof d i).load + at' l i
theorem Loads_l23 {d : List api_Dof} {l : List Rat} {m : Nat} (hd : Dofs d) (hl : Bds m l) (hll : l.length = d.length) (hm : m ≤ 1000000) (hn : d.length ≤ 100) (K : Nat) : ∀ (t i k : Nat), i + t = d.length → t < k → F_gantryref21_Loads_l23 K d l k (mp (gAll d l) i) (i : Int) = some (mp (gAll d l) d.length)
  | 0, i, k, hi, hk => by
    have : i = d.length := by omega
    subst this
    obtain ⟨k', rfl, _⟩ := fuel hk
    simp only [F_gantryref21_Loads_l23, dF (show ¬ (d.length : Int) < (d.length : Int) by omega), cF0]
  | t + 1, i, k, hi, hk => by
    obtain ⟨k', rfl, _⟩ := fuel hk
    have hx := hl _ (at_mem (l := l) (i := i) (by omega))
    have hq := hd _ (dof_mem (d := d) (i := i) (by omega))
    have e1 : qadd (dof d i).load (at' l i) = some (gAll d l i) := qadd_ok hq.2.2 hx (by omega) (by omega)
    simp only [F_gantryref21_Loads_l23, dT (show (i : Int) < (d.length : Int) by omega), cT0, rdDof (d := d) (i := i) (by omega), rdAt (l := l) (i := i) (by omega), e1, apM (g := gAll d l) (i := i) (by omega), ckN (m := 0) (n := i + 1) (show (i : Int) + 1 = ((i + 1 : Nat) : Int) by omega) (by omega), oB]
    exact Loads_l23 hd hl hll hm hn K t (i + 1) k' (by omega) (by omega)
theorem gAll_bd {d : List api_Dof} {l : List Rat} {m i : Nat} (hd : Dofs d) (hl : Bds m l) (hll : l.length = d.length) (hi : i < d.length) : Bd (m + 9) (gAll d l i) :=
  ((hd _ (dof_mem hi)).2.2.add (hl _ (at_mem (by omega)))).mono (by omega)
theorem Loads_ok {d : List api_Dof} {l : List Rat} {m : Nat} (hd : Dofs d) (hl : Bds m l) (hll : l.length = d.length) (hm : m ≤ 1000000) (hn : d.length ≤ 100) : Ev (fun K => F_gantryref21_Loads K d l) (mp (gAll d l) d.length) := ⟨d.length + 1, fun K hK => by
  have := Loads_l23 hd hl hll hm hn K d.length 0 K (by omega) (by omega)
  simp only [Int.natCast_zero, mp_zero] at this
  simp only [F_gantryref21_Loads, this, oB, F_gantryref21_Loads_j24]⟩
def gAcc (d : List api_Dof) (l : List Rat) (i : Nat) : Rat := (dof d i).inv * at' l i
theorem Free_l38 {x : api_Model} {l : List Rat} {m : Nat} (hd : Dofs x.dofs) (hl : Bds m l) (hll : l.length = x.dofs.length) (hm : m ≤ 1000000) (hn : x.dofs.length ≤ 100) (K : Nat) : ∀ (t i k : Nat), i + t = x.dofs.length → t < k → F_gantrylaw21_EnergyFree_l38 K x l k (mp (gAcc x.dofs l) i) (i : Int) = some (mp (gAcc x.dofs l) x.dofs.length)
  | 0, i, k, hi, hk => by
    have : i = x.dofs.length := by omega
    subst this
    obtain ⟨k', rfl, _⟩ := fuel hk
    simp only [F_gantrylaw21_EnergyFree_l38, dF (show ¬ (x.dofs.length : Int) < (x.dofs.length : Int) by omega), cF0]
  | t + 1, i, k, hi, hk => by
    obtain ⟨k', rfl, _⟩ := fuel hk
    have hx := hl _ (at_mem (l := l) (i := i) (by omega))
    have hq := hd _ (dof_mem (d := x.dofs) (i := i) (by omega))
    have e1 : qmul (dof x.dofs i).inv (at' l i) = some (gAcc x.dofs l i) := qmul_ok hq.1 hx (by omega) (by omega)
    simp only [F_gantrylaw21_EnergyFree_l38, dT (show (i : Int) < (x.dofs.length : Int) by omega), cT0, rdDof (d := x.dofs) (i := i) (by omega), rdAt (l := l) (i := i) (by omega), e1, apM (g := gAcc x.dofs l) (i := i) (by omega), ckN (m := 0) (n := i + 1) (show (i : Int) + 1 = ((i + 1 : Nat) : Int) by omega) (by omega), oB]
    exact Free_l38 hd hl hll hm hn K t (i + 1) k' (by omega) (by omega)
def gBy (v a : List Rat) (i : Nat) : Rat := at' v i + 1 / 2 * at' a i
def gV (v a : List Rat) (i : Nat) : Rat := at' v i + at' a i
theorem Pressed_l48 {s : api_State} {a : List Rat} {m : Nat} (hv : Bds m s.v) (ha : Bds m a) (hl : s.v.length = a.length) (hm : m ≤ 1000000) (hn : a.length ≤ 100) (K : Nat) : ∀ (t i k : Nat), i + t = a.length → t < k → F_gantryref21_Pressed_l48 K s a (1 / 2) k (mp (gV s.v a) i) (mp (gBy s.v a) i) (i : Int) = some (mp (gV s.v a) a.length, mp (gBy s.v a) a.length)
  | 0, i, k, hi, hk => by
    have : i = a.length := by omega
    subst this
    obtain ⟨k', rfl, _⟩ := fuel hk
    simp only [F_gantryref21_Pressed_l48, dF (show ¬ (a.length : Int) < (a.length : Int) by omega), cF0]
  | t + 1, i, k, hi, hk => by
    obtain ⟨k', rfl, _⟩ := fuel hk
    have hx := hv _ (at_mem (l := s.v) (i := i) (by omega))
    have hy := ha _ (at_mem (l := a) (i := i) (by omega))
    have e1 : qadd (at' s.v i) (1 / 2 * at' a i) = some (gBy s.v a i) := qadd_ok hx (BdH.mul hy) (by omega) (by omega)
    have e2 : qadd (at' s.v i) (at' a i) = some (gV s.v a i) := qadd_ok hx hy (by omega) (by omega)
    simp only [F_gantryref21_Pressed_l48, dT (show (i : Int) < (a.length : Int) by omega), cT0, rdAt (l := s.v) (i := i) (by omega), rdAt (l := a) (i := i) (by omega), qmul_ok BdH hy (by omega) (by omega), e1, e2, apM (g := gBy s.v a) (i := i) (by omega), apM (g := gV s.v a) (i := i) (by omega), ckN (m := 0) (n := i + 1) (show (i : Int) + 1 = ((i + 1 : Nat) : Int) by omega) (by omega), oB]
    exact Pressed_l48 hv ha hl hm hn K t (i + 1) k' (by omega) (by omega)
theorem After_l32 {s : api_State} {a : List Rat} {m : Nat} (hv : Bds m s.q) (ha : Bds m a) (hl : s.q.length = a.length) (hm : m ≤ 1000000) (hn : a.length ≤ 100) (K : Nat) : ∀ (t i k : Nat), i + t = a.length → t < k → F_gantryref21_After_l32 K s a k (mp (gV s.q a) i) (i : Int) = some (mp (gV s.q a) a.length)
  | 0, i, k, hi, hk => by
    have : i = a.length := by omega
    subst this
    obtain ⟨k', rfl, _⟩ := fuel hk
    simp only [F_gantryref21_After_l32, dF (show ¬ (a.length : Int) < (s.q.length : Int) by omega), cF0]
  | t + 1, i, k, hi, hk => by
    obtain ⟨k', rfl, _⟩ := fuel hk
    have hx := hv _ (at_mem (l := s.q) (i := i) (by omega))
    have hy := ha _ (at_mem (l := a) (i := i) (by omega))
    have e2 : qadd (at' s.q i) (at' a i) = some (gV s.q a i) := qadd_ok hx hy (by omega) (by omega)
    simp only [F_gantryref21_After_l32, dT (show (i : Int) < (s.q.length : Int) by omega), cT0, rdAt (l := s.q) (i := i) (by omega), rdAt (l := a) (i := i) (by omega), e2, apM (g := gV s.q a) (i := i) (by omega), ckN (m := 0) (n := i + 1) (show (i : Int) + 1 = ((i + 1 : Nat) : Int) by omega) (by omega), oB]
    exact After_l32 hv ha hl hm hn K t (i + 1) k' (by omega) (by omega)
/-- The state after a tick with accelerations. -/
def pressed (s : api_State) (a : List Rat) : api_State := ⟨s.tick + 1, mp (gV s.q (mp (gBy s.v a) a.length)) a.length, mp (gV s.v a) a.length, s.here⟩
theorem Pressed_ok {s : api_State} {a : List Rat} {m : Nat} (hs : StOk a.length m s) (ha : Bds m a) (hm : m ≤ 1000) (hn : a.length ≤ 100) (ht : s.tick = 0) : StOk a.length (m + m + m + 5) (pressed s a) ∧ Ev (fun K => F_gantryref21_Pressed K s a) (pressed s a) := by
  have hby : Bds (m + m + 3) (mp (gBy s.v a) a.length) := mp_bds fun i hi => by
    exact ((hs.v _ (at_mem (by rw [hs.vl]; exact hi))).add (BdH.mul (ha _ (at_mem hi)))).mono (by omega)
  have hqb : Bds (m + m + 3) s.q := fun x hx => (hs.q x hx).mono (by omega)
  constructor
  · refine ⟨mp_bds fun i hi => ?_, mp_bds fun i hi => ?_, mp_len _ _, mp_len _ _⟩
    · exact ((hs.q _ (at_mem (by rw [hs.ql]; exact hi))).add (hby _ (at_mem (by rw [mp_len]; exact hi)))).mono (by omega)
    · exact ((hs.v _ (at_mem (by rw [hs.vl]; exact hi))).add (ha _ (at_mem hi))).mono (by omega)
  · refine ⟨a.length + 1, fun K hK => ?_⟩
    have h1 := Pressed_l48 hs.v ha hs.vl (by omega) hn K a.length 0 K (by omega) (by omega)
    have h2 := After_l32 (s := s) (a := mp (gBy s.v a) a.length) hqb hby (by rw [mp_len, hs.ql]) (by omega) (by rw [mp_len]; omega) K a.length 0 K (by rw [mp_len]; omega) (by omega)
    rw [mp_len] at h2
    simp only [Int.natCast_zero, mp_zero] at h1 h2
    have h3 : chk (s.tick + 1) = some (s.tick + 1) := ckO (by omega)
    simp only [F_gantryref21_Pressed, qof12, oB, h1, F_gantryref21_Pressed_j49, F_gantryref21_After, h3, h2, F_gantryref21_After_j33]
    rfl
theorem sm_eq {f g h k l : Nat → Rat} : ∀ (n : Nat), (∀ i, i < n → f i + g i + h i = k i + l i) → sm f n + sm g n + sm h n = sm k n + sm l n
  | 0, _ => by simp only [sm]; grind
  | n + 1, hh => by
    have ih := sm_eq n (fun i hi => hh i (by omega))
    have h1 := hh n (by omega)
    simp only [sm]
    grind
theorem free_id {v q I L l : Rat} (hI : I ≠ 0) : v * v / I + -(2 * (L * q)) + 2 * (l * (q + (v + 1 / 2 * (I * (L + l))) - q)) = (v + I * (L + l)) * (v + I * (L + l)) / I + -(2 * (L * (q + (v + 1 / 2 * (I * (L + l)))))) := by grind
theorem EnergyFree_pure {a0 a1 : List Int} (h0 : I64s a0) (h1 : I64s a1) : ∃ K, F_gantrylaw21_EnergyFree K a0 a1 = some true := by
  obtain ⟨m, m1, m2, m3⟩ := Model_ok h0
  obtain ⟨x1, a1l, a1b, a1e⟩ := numbers_ok h1 0 (by omega) m.dofs.length (by omega)
  obtain ⟨x2, a2l, a2b, a2e⟩ := numbers_ok h1 12 (by omega) m.dofs.length (by omega)
  obtain ⟨x3, a3l, a3b, a3e⟩ := numbers_ok h1 24 (by omega) m.dofs.length (by omega)
  have hp := m1.np
  have hd : Dofs m.dofs := m1.dofs
  have e1 : mkL (m.parts.length : Int) false = some (List.replicate m.parts.length false) := mkL_ok (by omega)
  have hall : Bds 17 (mp (gAll m.dofs x3) m.dofs.length) := mp_bds fun i hi => (gAll_bd hd a3b a3l hi).mono (by omega)
  have hacc : Bds 25 (mp (gAcc m.dofs (mp (gAll m.dofs x3) m.dofs.length)) m.dofs.length) := mp_bds fun i hi => ((hd _ (dof_mem hi)).1.mul (hall _ (at_mem (by rw [mp_len]; exact hi)))).mono (by omega)
  have hal : (mp (gAcc m.dofs (mp (gAll m.dofs x3) m.dofs.length)) m.dofs.length).length = m.dofs.length := mp_len _ _
  have sa : StOk m.dofs.length 25 (⟨0, x1, x2, List.replicate m.parts.length false⟩ : api_State) := ⟨fun x hx => (a1b x hx).mono (by omega), fun x hx => (a2b x hx).mono (by omega), a1l, a2l⟩
  obtain ⟨p1, p2⟩ := Pressed_ok (s := ⟨0, x1, x2, List.replicate m.parts.length false⟩) (a := mp (gAcc m.dofs (mp (gAll m.dofs x3) m.dofs.length)) m.dofs.length) (by rw [hal]; exact sa) hacc (by omega) (by rw [hal]; omega) rfl
  rw [hal] at p1
  refine (?_ : Ev (fun K => F_gantrylaw21_EnergyFree K a0 a1) true).get
  unfold F_gantrylaw21_EnergyFree
  refine Ev.bind m3 (Ev.bind a1e (Ev.bind a2e ?_))
  simp only [e1, oB]
  refine Ev.bind a3e (Ev.bind (Loads_ok hd a3b a3l (by omega) (by omega)) ?_)
  refine Ev.bind (x := mp (gAcc m.dofs (mp (gAll m.dofs x3) m.dofs.length)) m.dofs.length) (f := fun K => F_gantrylaw21_EnergyFree_l38 K m (mp (gAll m.dofs x3) m.dofs.length) K [] 0) ⟨m.dofs.length + 1, fun K hK => ?_⟩ ?_
  · have := Free_l38 (x := m) hd hall (mp_len _ _) (by omega) (by omega) K m.dofs.length 0 K (by omega) (by omega)
    simpa only [Int.natCast_zero, mp_zero] using this
  simp only [F_gantrylaw21_EnergyFree_j39]
  refine Ev.bind p2 ?_
  have sa' : StOk m.dofs.length 80 (⟨0, x1, x2, List.replicate m.parts.length false⟩ : api_State) := ⟨fun x hx => (a1b x hx).mono (by omega), fun x hx => (a2b x hx).mono (by omega), a1l, a2l⟩
  obtain ⟨l1, l2⟩ := Lost_ok (l := x3) (b := pressed ⟨0, x1, x2, List.replicate m.parts.length false⟩ (mp (gAcc m.dofs (mp (gAll m.dofs x3) m.dofs.length)) m.dofs.length)) (m := 80) hd (fun x hx => (a3b x hx).mono (by omega)) a3l sa' p1 (by omega) (by omega)
  refine Ev.bind l2 ?_
  have hz : lost m.dofs x3 ⟨0, x1, x2, List.replicate m.parts.length false⟩ (pressed ⟨0, x1, x2, List.replicate m.parts.length false⟩ (mp (gAcc m.dofs (mp (gAll m.dofs x3) m.dofs.length)) m.dofs.length)) = 0 := by
    unfold lost
    suffices hh : ∀ i, i < m.dofs.length → kf m.dofs x2 i + sf m.dofs x1 i + wf x3 x1 (pressed ⟨0, x1, x2, List.replicate m.parts.length false⟩ (mp (gAcc m.dofs (mp (gAll m.dofs x3) m.dofs.length)) m.dofs.length)).q i = kf m.dofs (pressed ⟨0, x1, x2, List.replicate m.parts.length false⟩ (mp (gAcc m.dofs (mp (gAll m.dofs x3) m.dofs.length)) m.dofs.length)).v i + sf m.dofs (pressed ⟨0, x1, x2, List.replicate m.parts.length false⟩ (mp (gAcc m.dofs (mp (gAll m.dofs x3) m.dofs.length)) m.dofs.length)).q i by
      rw [sm_eq m.dofs.length hh]
      exact Rat.sub_self
    · intro i hi
      unfold kf sf wf pressed
      simp only [hal]
      rw [mp_at hi, mp_at hi]
      unfold gV
      rw [mp_at hi, mp_at hi]
      unfold gBy
      rw [mp_at hi]
      unfold gAcc
      rw [mp_at hi]
      unfold gAll
      exact free_id (hd _ (dof_mem hi)).2.1
  rw [hz]
  have e5 : qsgn 0 = some 0 := by rw [qsgn_ok Bd.zero (by omega)]; rfl
  simp only [e5, oB]
  simp only [show ((0 : Int) == 0) = true from rfl, cT0]
  exact Ev.bind lives21_ok (Ev.pure _)
end Go.Proofs.YtkjnngaceacmdaaGreat
