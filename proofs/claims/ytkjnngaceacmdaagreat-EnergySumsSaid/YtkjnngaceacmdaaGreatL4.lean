/- Kinetic, Stored, Total, Work and Lost: the program's sums and the reference's. -/
import Derived.Test.YtkjnngaceacmdaaGreatL3
set_option linter.unusedVariables false
namespace Go.Proofs.YtkjnngaceacmdaaGreat

theorem rdD {α : Type} {xs : List α} {i : Nat} (d : α) (h : i < xs.length) : rdL xs (i : Int) = some (xs.getD i d) := by
  rw [rdG (x := xs.getD i d)]
  simp [List.getD_eq_getElem?_getD, h]
def dof (d : List api_Dof) (i : Nat) : api_Dof := d.getD i ⟨0, 0, false, 0, 0⟩
def at' (l : List Rat) (i : Nat) : Rat := l.getD i 0
theorem rdDof {d : List api_Dof} {i : Nat} (h : i < d.length) : rdL d (i : Int) = some (dof d i) := rdD _ h
theorem rdAt {l : List Rat} {i : Nat} (h : i < l.length) : rdL l (i : Int) = some (at' l i) := rdD _ h
theorem dof_mem {d : List api_Dof} {i : Nat} (h : i < d.length) : dof d i ∈ d := by
  have : dof d i = d[i] := by unfold dof; simp [List.getD_eq_getElem?_getD, h]
  rw [this]; exact List.getElem_mem h
theorem at_mem {l : List Rat} {i : Nat} (h : i < l.length) : at' l i ∈ l := by
  have : at' l i = l[i] := by unfold at'; simp [List.getD_eq_getElem?_getD, h]
  rw [this]; exact List.getElem_mem h
theorem two_is : ((2 : Int) : Rat) / ((1 : Int) : Rat) = 2 := by decide +kernel
theorem one_is : ((1 : Int) : Rat) / ((1 : Int) : Rat) = 1 := by decide +kernel
theorem half_is : ((1 : Int) : Rat) / ((2 : Int) : Rat) = 1 / 2 := by decide +kernel
theorem Bd2 : Bd 2 2 := by constructor <;> decide
theorem BdH : Bd 2 (1 / 2 : Rat) := by constructor <;> decide +kernel
theorem qof21 : qof 2 1 = some 2 := by rw [qof_ok (by omega) (by omega), two_is]
theorem qof12 : qof 1 2 = some (1 / 2) := by rw [qof_ok (by omega) (by omega), half_is]
def kf (d : List api_Dof) (v : List Rat) (i : Nat) : Rat := at' v i * at' v i / (dof d i).inv
def sf (d : List api_Dof) (q : List Rat) (i : Nat) : Rat := -(2 * ((dof d i).load * at' q i))
def wf (l a b : List Rat) (i : Nat) : Rat := 2 * (at' l i * (at' b i - at' a i))
/-- Degrees of freedom with small numbers. -/
def Dofs (d : List api_Dof) : Prop := ∀ x ∈ d, DofOk x
theorem double_ok {m n : Nat} {a b : Rat} (ha : Bd m a) (hb : Bd n b) (hm : m ≤ 500000000) (hn : n ≤ 500000000) : F_energy_double a b = some (2 * (a * b)) := by
  unfold F_energy_double
  rw [qof21, oB, qmul_ok ha hb (by omega) (by omega), oB, qmul_ok Bd2 (ha.mul hb) (by omega) (by omega), oB]
theorem kin_acc {d : List api_Dof} {v : List Rat} {m : Nat} (hd : Dofs d) (hv : Bds m v) (hl : v.length = d.length) (hm : m ≤ 1000000) : AccOk (m + m + 8) ⟨(d.length : Int), F_energy_kinetic_1 v d⟩ d.length (kf d v) := by
  refine ⟨rfl, fun i hi => ?_, fun i hi => ?_⟩
  · have hx := hv _ (at_mem (l := v) (i := i) (by omega))
    have hq := hd _ (dof_mem (d := d) hi)
    show F_energy_kinetic_1 v d (i : Int) = _
    unfold F_energy_kinetic_1
    rw [rdAt (by omega), oB, oB, qmul_ok hx hx (by omega) (by omega), oB, rdDof hi, oB, qdiv_ok (hx.mul hx) hq.1 (by omega) (by omega), oB]
    rfl
  · have hx := hv _ (at_mem (l := v) (i := i) (by omega))
    have hq := hd _ (dof_mem (d := d) hi)
    exact (hx.mul hx).div hq.1
theorem sto_acc {d : List api_Dof} {q : List Rat} {m : Nat} (hd : Dofs d) (hv : Bds m q) (hl : q.length = d.length) (hm : m ≤ 1000000) : AccOk (m + 10) ⟨(d.length : Int), F_energy_stored_1 d q⟩ d.length (sf d q) := by
  refine ⟨rfl, fun i hi => ?_, fun i hi => ?_⟩
  · have hx := hv _ (at_mem (l := q) (i := i) (by omega))
    have hq := hd _ (dof_mem (d := d) hi)
    show F_energy_stored_1 d q (i : Int) = _
    unfold F_energy_stored_1
    rw [rdDof hi, oB, rdAt (by omega), oB, double_ok hq.2.2 hx (by omega) (by omega), oB, qneg_ok (Bd2.mul (hq.2.2.mul hx)) (by omega), oB]
    rfl
  · have hx := hv _ (at_mem (l := q) (i := i) (by omega))
    have hq := hd _ (dof_mem (d := d) hi)
    exact (Bd2.mul (hq.2.2.mul hx)).neg.mono (by omega)
theorem wor_acc {l : List Rat} {a b : api_State} {m k : Nat} (hl : Bds m l) (ha : Bds k a.q) (hb : Bds k b.q) (h1 : a.q.length = l.length) (h2 : b.q.length = l.length) (hm : m ≤ 1000000) (hk : k ≤ 1000000) : AccOk (m + k + k + 3) ⟨(l.length : Int), F_energy_work_1 l b a⟩ l.length (wf l a.q b.q) := by
  refine ⟨rfl, fun i hi => ?_, fun i hi => ?_⟩
  · have hx := hl _ (at_mem (l := l) hi)
    have hy := ha _ (at_mem (l := a.q) (i := i) (by omega))
    have hz := hb _ (at_mem (l := b.q) (i := i) (by omega))
    show F_energy_work_1 l b a (i : Int) = _
    unfold F_energy_work_1
    rw [rdAt hi, oB, rdAt (by omega), oB, rdAt (by omega), oB, qsub_ok hz hy (by omega) (by omega), oB, double_ok hx (hz.sub hy) (by omega) (by omega), oB]
    rfl
  · have hx := hl _ (at_mem (l := l) hi)
    have hy := ha _ (at_mem (l := a.q) (i := i) (by omega))
    have hz := hb _ (at_mem (l := b.q) (i := i) (by omega))
    exact (Bd2.mul (hx.mul (hz.sub hy))).mono (by omega)
theorem AccOk.mono {c c' n : Nat} {a : energy_account} {f : Nat → Rat} (h : AccOk c a n f) (hc : c ≤ c') : AccOk c' a n f := ⟨h.hn, h.hof, fun i hi => (h.hbd i hi).mono hc⟩

/-! ### The reference's sums -/
theorem rKin_l8 {d : List api_Dof} {v : List Rat} {m : Nat} (hd : Dofs d) (hv : Bds m v) (hl : v.length = d.length) (hm : m ≤ 1000000) (hn : d.length ≤ 100) : ∀ (t i : Nat) (acc : Rat), i + t = d.length → acc = sm (kf d v) i → Bd (1 + i * (m + m + 9)) acc →
    Bd (1 + d.length * (m + m + 9)) (sm (kf d v) d.length) ∧ ∀ K k, t < k → F_gantryref21_Kinetic_l8 K d v k acc (i : Int) = some (sm (kf d v) d.length)
  | 0, i, acc, hi, he, hb => by
    have : i = d.length := by omega
    subst this
    refine ⟨he ▸ hb, fun K k hk => ?_⟩
    obtain ⟨k', rfl, _⟩ := fuel hk
    simp only [F_gantryref21_Kinetic_l8, dF (show ¬ (d.length : Int) < (d.length : Int) by omega), cF0, he]
  | t + 1, i, acc, hi, he, hb => by
    have hx := hv _ (at_mem (l := v) (i := i) (by omega))
    have hq := hd _ (dof_mem (d := d) (i := i) (by omega))
    have hmul : (i + 1) * (m + m + 9) ≤ 100 * (m + m + 9) := Nat.mul_le_mul_right _ (by omega)
    have hmul2 : (i + 1) * (m + m + 9) = i * (m + m + 9) + (m + m + 9) := by rw [Nat.add_mul, Nat.one_mul]
    have hf : Bd (m + m + 8) (kf d v i) := (hx.mul hx).div hq.1
    obtain ⟨g1, g2⟩ := rKin_l8 hd hv hl hm hn t (i + 1) (acc + kf d v i) (by omega) (by rw [he]; rfl) ((hb.add hf).mono (by omega))
    refine ⟨g1, fun K k hk => ?_⟩
    obtain ⟨k', rfl, _⟩ := fuel hk
    have e1 : qdiv (at' v i * at' v i) (dof d i).inv = some (kf d v i) := qdiv_ok (hx.mul hx) hq.1 (by omega) (by omega)
    simp only [F_gantryref21_Kinetic_l8, dT (show (i : Int) < (d.length : Int) by omega), cT0, rdAt (l := v) (i := i) (by omega), rdDof (d := d) (i := i) (by omega), qmul_ok hx hx (by omega) (by omega), e1, qadd_ok hb hf (by omega) (by omega), ckN (m := 0) (n := i + 1) (show (i : Int) + 1 = ((i + 1 : Nat) : Int) by omega) (by omega), oB]
    exact g2 K k' (by omega)
theorem rKin_ok {d : List api_Dof} {v : List Rat} {m : Nat} (hd : Dofs d) (hv : Bds m v) (hl : v.length = d.length) (hm : m ≤ 1000000) (hn : d.length ≤ 100) : Bd (1 + d.length * (m + m + 9)) (sm (kf d v) d.length) ∧ Ev (fun K => F_gantryref21_Kinetic K d v) (sm (kf d v) d.length) := by
  obtain ⟨g1, g2⟩ := rKin_l8 hd hv hl hm hn d.length 0 0 (by omega) rfl (Bd.zero.mono (by omega))
  refine ⟨g1, ⟨d.length + 1, fun K hK => ?_⟩⟩
  have := g2 K K (by omega)
  simp only [Int.natCast_zero] at this
  simp only [F_gantryref21_Kinetic, this, oB, F_gantryref21_Kinetic_j9]
theorem rtwo_ok {m : Nat} {a : Rat} (ha : Bd m a) (hm : m ≤ 1073741824) : F_gantryref21_two a = some (a + a) := by
  unfold F_gantryref21_two; rw [qadd_ok ha ha hm hm, oB]
theorem rSto_l8 {d : List api_Dof} {v : List Rat} {m : Nat} (hd : Dofs d) (hv : Bds m v) (hl : v.length = d.length) (hm : m ≤ 1000000) (hn : d.length ≤ 100) : ∀ (t i : Nat) (acc : Rat), i + t = d.length → acc = sm (sf d v) i → Bd (1 + i * (m + m + 18)) acc →
    Bd (1 + d.length * (m + m + 18)) (sm (sf d v) d.length) ∧ ∀ K k, t < k → F_gantryref21_Stored_l8 K d v k acc (i : Int) = some (sm (sf d v) d.length)
  | 0, i, acc, hi, he, hb => by
    have : i = d.length := by omega
    subst this
    refine ⟨he ▸ hb, fun K k hk => ?_⟩
    obtain ⟨k', rfl, _⟩ := fuel hk
    simp only [F_gantryref21_Stored_l8, dF (show ¬ (d.length : Int) < (d.length : Int) by omega), cF0, he]
  | t + 1, i, acc, hi, he, hb => by
    have hx := hv _ (at_mem (l := v) (i := i) (by omega))
    have hq := hd _ (dof_mem (d := d) (i := i) (by omega))
    have hmul : (i + 1) * (m + m + 18) ≤ 100 * (m + m + 18) := Nat.mul_le_mul_right _ (by omega)
    have hmul2 : (i + 1) * (m + m + 18) = i * (m + m + 18) + (m + m + 18) := by rw [Nat.add_mul, Nat.one_mul]
    have hp := hq.2.2.mul hx
    have hpp := hp.add hp
    obtain ⟨g1, g2⟩ := rSto_l8 hd hv hl hm hn t (i + 1) (acc - ((dof d i).load * at' v i + (dof d i).load * at' v i)) (by omega) (by rw [he]; simp only [sm, sf]; grind) ((hb.sub hpp).mono (by omega))
    refine ⟨g1, fun K k hk => ?_⟩
    obtain ⟨k', rfl, _⟩ := fuel hk
    simp only [F_gantryref21_Stored_l8, dT (show (i : Int) < (d.length : Int) by omega), cT0, rdAt (l := v) (i := i) (by omega), rdDof (d := d) (i := i) (by omega), qmul_ok hq.2.2 hx (by omega) (by omega), rtwo_ok hp (by omega), qsub_ok hb hpp (by omega) (by omega), ckN (m := 0) (n := i + 1) (show (i : Int) + 1 = ((i + 1 : Nat) : Int) by omega) (by omega), oB]
    exact g2 K k' (by omega)
theorem rSto_ok {d : List api_Dof} {v : List Rat} {m : Nat} (hd : Dofs d) (hv : Bds m v) (hl : v.length = d.length) (hm : m ≤ 1000000) (hn : d.length ≤ 100) : Bd (1 + d.length * (m + m + 18)) (sm (sf d v) d.length) ∧ Ev (fun K => F_gantryref21_Stored K d v) (sm (sf d v) d.length) := by
  obtain ⟨g1, g2⟩ := rSto_l8 hd hv hl hm hn d.length 0 0 (by omega) rfl (Bd.zero.mono (by omega))
  refine ⟨g1, ⟨d.length + 1, fun K hK => ?_⟩⟩
  have := g2 K K (by omega)
  simp only [Int.natCast_zero] at this
  simp only [F_gantryref21_Stored, this, oB, F_gantryref21_Stored_j9]
theorem rWor_l10 {l : List Rat} {a b : api_State} {m k : Nat} (hl : Bds m l) (ha : Bds k a.q) (hb : Bds k b.q) (h1 : a.q.length = l.length) (h2 : b.q.length = l.length) (hm : m ≤ 1000000) (hk : k ≤ 1000000) (hn : l.length ≤ 100) : ∀ (t i : Nat) (acc : Rat), i + t = l.length → acc = sm (wf l a.q b.q) i → Bd (1 + i * (m + m + 4 * k + 4)) acc →
    Bd (1 + l.length * (m + m + 4 * k + 4)) (sm (wf l a.q b.q) l.length) ∧ ∀ K j, t < j → F_gantryref21_Work_l10 K l a b j acc (i : Int) = some (sm (wf l a.q b.q) l.length)
  | 0, i, acc, hi, he, hbd => by
    have : i = l.length := by omega
    subst this
    refine ⟨he ▸ hbd, fun K j hj => ?_⟩
    obtain ⟨k', rfl, _⟩ := fuel hj
    simp only [F_gantryref21_Work_l10, dF (show ¬ (l.length : Int) < (l.length : Int) by omega), cF0, he]
  | t + 1, i, acc, hi, he, hbd => by
    have hx := hl _ (at_mem (l := l) (i := i) (by omega))
    have hy := ha _ (at_mem (l := a.q) (i := i) (by omega))
    have hz := hb _ (at_mem (l := b.q) (i := i) (by omega))
    have hmul : (i + 1) * (m + m + 4 * k + 4) ≤ 100 * (m + m + 4 * k + 4) := Nat.mul_le_mul_right _ (by omega)
    have hmul2 : (i + 1) * (m + m + 4 * k + 4) = i * (m + m + 4 * k + 4) + (m + m + 4 * k + 4) := by rw [Nat.add_mul, Nat.one_mul]
    have hp := hx.mul (hz.sub hy)
    have hpp := hp.add hp
    obtain ⟨g1, g2⟩ := rWor_l10 hl ha hb h1 h2 hm hk hn t (i + 1) (acc + (at' l i * (at' b.q i - at' a.q i) + at' l i * (at' b.q i - at' a.q i))) (by omega) (by rw [he]; simp only [sm, wf]; grind) ((hbd.add hpp).mono (by omega))
    refine ⟨g1, fun K j hj => ?_⟩
    obtain ⟨k', rfl, _⟩ := fuel hj
    simp only [F_gantryref21_Work_l10, dT (show (i : Int) < (l.length : Int) by omega), cT0, rdAt (l := l) (i := i) (by omega), rdAt (l := a.q) (i := i) (by omega), rdAt (l := b.q) (i := i) (by omega), qsub_ok hz hy (by omega) (by omega), qmul_ok hx (hz.sub hy) (by omega) (by omega), rtwo_ok hp (by omega), qadd_ok hbd hpp (by omega) (by omega), ckN (m := 0) (n := i + 1) (show (i : Int) + 1 = ((i + 1 : Nat) : Int) by omega) (by omega), oB]
    exact g2 K k' (by omega)
theorem rWor_ok {l : List Rat} {a b : api_State} {m k : Nat} (hl : Bds m l) (ha : Bds k a.q) (hb : Bds k b.q) (h1 : a.q.length = l.length) (h2 : b.q.length = l.length) (hm : m ≤ 1000000) (hk : k ≤ 1000000) (hn : l.length ≤ 100) : Bd (1 + l.length * (m + m + 4 * k + 4)) (sm (wf l a.q b.q) l.length) ∧ Ev (fun K => F_gantryref21_Work K l a b) (sm (wf l a.q b.q) l.length) := by
  obtain ⟨g1, g2⟩ := rWor_l10 hl ha hb h1 h2 hm hk hn l.length 0 0 (by omega) rfl (Bd.zero.mono (by omega))
  refine ⟨g1, ⟨l.length + 1, fun K hK => ?_⟩⟩
  have := g2 K K (by omega)
  simp only [Int.natCast_zero] at this
  simp only [F_gantryref21_Work, this, oB, F_gantryref21_Work_j11]

/-! ### What the two say -/
/-- A state that fits. -/
structure StOk (n m : Nat) (s : api_State) : Prop where
  q : Bds m s.q
  v : Bds m s.v
  ql : s.q.length = n
  vl : s.v.length = n
theorem Kinetic_ok {d : List api_Dof} {v : List Rat} {m : Nat} (hd : Dofs d) (hv : Bds m v) (hl : v.length = d.length) (hm : m ≤ 1000) (hn : d.length ≤ 100) : Bd 1000000 (sm (kf d v) d.length) ∧ Ev (fun K => F_energy_Kinetic K d v) (sm (kf d v) d.length) := by
  have h := sum_ok (c := m + m + 8) (N := 100) (l := [⟨(d.length : Int), F_energy_kinetic_1 v d⟩]) (fs := [(d.length, kf d v)]) ⟨kin_acc hd hv hl (by omega), hn, trivial⟩ (by omega) (by simp) (by simp; omega)
  simp only [tot, Rat.zero_add, List.length_singleton] at h
  refine ⟨h.1.mono (by omega), ?_⟩
  unfold F_energy_Kinetic F_energy_kinetic
  simp only [oB]
  exact Ev.bind h.2 (Ev.pure _)
theorem Stored_ok {d : List api_Dof} {q : List Rat} {m : Nat} (hd : Dofs d) (hv : Bds m q) (hl : q.length = d.length) (hm : m ≤ 1000) (hn : d.length ≤ 100) : Bd 1000000 (sm (sf d q) d.length) ∧ Ev (fun K => F_energy_Stored K d q) (sm (sf d q) d.length) := by
  have h := sum_ok (c := m + m + 10) (N := 100) (l := [⟨(d.length : Int), F_energy_stored_1 d q⟩]) (fs := [(d.length, sf d q)]) ⟨(sto_acc hd hv hl (by omega)).mono (by omega), hn, trivial⟩ (by omega) (by simp) (by simp; omega)
  simp only [tot, Rat.zero_add, List.length_singleton] at h
  refine ⟨h.1.mono (by omega), ?_⟩
  unfold F_energy_Stored F_energy_stored
  simp only [oB]
  exact Ev.bind h.2 (Ev.pure _)
theorem Total_ok {x : api_Model} {s : api_State} {m : Nat} (hd : Dofs x.dofs) (hs : StOk x.dofs.length m s) (hm : m ≤ 1000) (hn : x.dofs.length ≤ 100) : Bd 1000000 (sm (kf x.dofs s.v) x.dofs.length + sm (sf x.dofs s.q) x.dofs.length) ∧ Ev (fun K => F_energy_Total K x s) (sm (kf x.dofs s.v) x.dofs.length + sm (sf x.dofs s.q) x.dofs.length) := by
  have h := sum_ok (c := m + m + 10) (N := 100) (l := [⟨(x.dofs.length : Int), F_energy_kinetic_1 s.v x.dofs⟩, ⟨(x.dofs.length : Int), F_energy_stored_1 x.dofs s.q⟩]) (fs := [(x.dofs.length, kf x.dofs s.v), (x.dofs.length, sf x.dofs s.q)]) ⟨(kin_acc hd hs.v hs.vl (by omega)).mono (by omega), hn, (sto_acc hd hs.q hs.ql (by omega)).mono (by omega), hn, trivial⟩ (by omega) (by simp) (by simp; omega)
  simp only [tot, Rat.zero_add, List.length_cons, List.length_nil] at h
  refine ⟨h.1.mono (by omega), ?_⟩
  unfold F_energy_Total F_energy_kinetic F_energy_stored
  simp only [oB]
  exact Ev.bind h.2 (Ev.pure _)
theorem rTotal_ok {x : api_Model} {s : api_State} {m : Nat} (hd : Dofs x.dofs) (hs : StOk x.dofs.length m s) (hm : m ≤ 1000) (hn : x.dofs.length ≤ 100) : Ev (fun K => F_gantryref21_Total K x s) (sm (kf x.dofs s.v) x.dofs.length + sm (sf x.dofs s.q) x.dofs.length) := by
  obtain ⟨k1, k2⟩ := Kinetic_ok hd hs.v hs.vl hm hn
  obtain ⟨s1, s2⟩ := Stored_ok hd hs.q hs.ql hm hn
  unfold F_gantryref21_Total
  refine Ev.bind (rKin_ok hd hs.v hs.vl (by omega) hn).2 (Ev.bind (rSto_ok hd hs.q hs.ql (by omega) hn).2 ?_)
  simp only [qadd_ok k1 s1 (by omega) (by omega), oB]
  exact Ev.pure _
theorem Work_ok {l : List Rat} {a b : api_State} {n m : Nat} (hl : Bds m l) (hll : l.length = n) (ha : StOk n m a) (hb : StOk n m b) (hm : m ≤ 1000) (hn : n ≤ 100) : Bd 1000000 (sm (wf l a.q b.q) n) ∧ Ev (fun K => F_energy_Work K l a b) (sm (wf l a.q b.q) n) := by
  subst hll
  have h := sum_ok (c := m + m + m + 10) (N := 100) (l := [⟨(l.length : Int), F_energy_work_1 l b a⟩]) (fs := [(l.length, wf l a.q b.q)]) ⟨(wor_acc hl ha.q hb.q ha.ql hb.ql (by omega) (by omega)).mono (by omega), hn, trivial⟩ (by omega) (by simp) (by simp; omega)
  simp only [tot, Rat.zero_add, List.length_singleton] at h
  refine ⟨h.1.mono (by omega), ?_⟩
  unfold F_energy_Work F_energy_work
  simp only [oB]
  exact Ev.bind h.2 (Ev.pure _)
/-- What is lost. -/
def lost (d : List api_Dof) (l : List Rat) (a b : api_State) : Rat := sm (kf d a.v) d.length + sm (sf d a.q) d.length + sm (wf l a.q b.q) d.length - (sm (kf d b.v) d.length + sm (sf d b.q) d.length)
theorem Lost_ok {x : api_Model} {l : List Rat} {a b : api_State} {m : Nat} (hd : Dofs x.dofs) (hl : Bds m l) (hll : l.length = x.dofs.length) (ha : StOk x.dofs.length m a) (hb : StOk x.dofs.length m b) (hm : m ≤ 1000) (hn : x.dofs.length ≤ 100) : Bd 3000000 (lost x.dofs l a b) ∧ Ev (fun K => F_energy_Lost K x l a b) (lost x.dofs l a b) := by
  have h := sum_ok (c := m + m + m + 10) (N := 100) (l := [⟨(x.dofs.length : Int), F_energy_kinetic_1 a.v x.dofs⟩, ⟨(x.dofs.length : Int), F_energy_stored_1 x.dofs a.q⟩, ⟨(l.length : Int), F_energy_work_1 l b a⟩])
    (fs := [(x.dofs.length, kf x.dofs a.v), (x.dofs.length, sf x.dofs a.q), (x.dofs.length, wf l a.q b.q)])
    ⟨(kin_acc hd ha.v ha.vl (by omega)).mono (by omega), hn, (sto_acc hd ha.q ha.ql (by omega)).mono (by omega), hn, hll ▸ (wor_acc hl ha.q hb.q (by rw [ha.ql, hll]) (by rw [hb.ql, hll]) (by omega) (by omega)).mono (by omega), hn, trivial⟩ (by omega) (by simp) (by simp; omega)
  simp only [tot, Rat.zero_add, List.length_cons, List.length_nil] at h
  obtain ⟨t1, t2⟩ := Total_ok hd hb hm hn
  have h1 := h.1.mono (n := 1000000) (by omega)
  refine ⟨(h1.sub t1).mono (by omega), ?_⟩
  unfold F_energy_Lost F_energy_kinetic F_energy_stored F_energy_work
  simp only [oB]
  refine Ev.bind h.2 (Ev.bind t2 ?_)
  simp only [qsub_ok h1 t1 (by omega) (by omega), oB]
  exact Ev.pure _
theorem rLost_ok {x : api_Model} {l : List Rat} {a b : api_State} {m : Nat} (hd : Dofs x.dofs) (hl : Bds m l) (hll : l.length = x.dofs.length) (ha : StOk x.dofs.length m a) (hb : StOk x.dofs.length m b) (hm : m ≤ 1000) (hn : x.dofs.length ≤ 100) : Ev (fun K => F_gantryref21_Lost K x l a b) (lost x.dofs l a b) := by
  obtain ⟨t1, t2⟩ := Total_ok hd ha hm hn
  obtain ⟨u1, u2⟩ := Total_ok hd hb hm hn
  obtain ⟨w1, w2⟩ := Work_ok hl hll ha hb hm hn
  have w3 := (rWor_ok hl ha.q hb.q (by rw [ha.ql, hll]) (by rw [hb.ql, hll]) (by omega) (by omega) (by omega)).2
  rw [hll] at w3
  unfold F_gantryref21_Lost
  refine Ev.bind (rTotal_ok hd ha hm hn) (Ev.bind w3 ?_)
  simp only [qadd_ok t1 w1 (by omega) (by omega), oB]
  refine Ev.bind (rTotal_ok hd hb hm hn) ?_
  simp only [qsub_ok (t1.add w1) u1 (by omega) (by omega), oB]
  exact Ev.pure _
set_option maxRecDepth 100000 in
theorem lives21 (K : Nat) : F_gantrylaw21_lives (K + 40) = some true := by kernel_rfl
theorem lives21_ok : Ev (fun K => F_gantrylaw21_lives K) true := ⟨40, fun K hK => by
  obtain ⟨k, rfl⟩ := Nat.exists_eq_add_of_le hK
  rw [Nat.add_comm]; exact lives21 k⟩
end Go.Proofs.YtkjnngaceacmdaaGreat
