/- Kinetic, Stored, Total, Work and Lost: the program's sums and the reference's. -/
import Derived.Test.YtkjnngaceacmdaaGreatL3
set_option linter.unusedVariables false
namespace Go.Proofs.YtkjnngaceacmdaaGreat

theorem rdD {α : Type} {xs : List α} {i : Nat} (d : α) (h : i < xs.length) : rdL xs (i : Int) = some (xs.getD i d) := by
  rw [rdG (x := xs.getD i d)]
  simp [List.getD_eq_getElem?_getD, h]
def dof (d : List api_Dof) (i : Nat) : api_Dof := d.getD i ⟨0, 0, false, 0, 0⟩
def at' (l : List Rat) (i : Nat) : Rat := l.getD i 0
theorem rdDof {d : List api_Dof} {i : Nat} (h : i < d.length) : rdL d (i : Int) = some (dof d i) := rdD _ h
theorem rdAt {l : List Rat} {i : Nat} (h : i < l.length) : rdL l (i : Int) = some (at' l i) := rdD _ h
theorem dof_mem {d : List api_Dof} {i : Nat} (h : i < d.length) : dof d i ∈ d := by
  have : dof d i = d[i] := by unfold dof; simp [List.getD_eq_getElem?_getD, h]
  rw [this]; exact List.getElem_mem h
theorem at_mem {l : List Rat} {i : Nat} (h : i < l.length) : at' l i ∈ l := by
  have : at' l i = l[i] := by unfold at'; simp [List.getD_eq_getElem?_getD, h]
  rw [this]; exact List.getElem_mem h
theorem two_is : ((2 : Int) : Rat) / ((1 : Int) : Rat) = 2 := by decide +kernel
theorem one_is : ((1 : Int) : Rat) / ((1 : Int) : Rat) = 1 := by decide +kernel
theorem half_is : ((1 : Int) : Rat) / ((2 : Int) : Rat) = 1 / 2 := by decide +kernel
theorem Bd2 : Bd 2 2 := by constructor <;> decide
theorem BdH : Bd 2 (1 / 2 : Rat) := by constructor <;> decide +kernel
theorem qof21 : qof 2 1 = some 2 := by rw [qof_ok (by omega) (by omega), two_is]
theorem qof12 : qof 1 2 = some (1 / 2) := by rw [qof_ok (by omega) (by omega), half_is]
def kf (d : List api_Dof) (v : List Rat) (i : Nat) : Rat := at' v i * at' v i / (dof d i).inv
def sf (d : List api_Dof) (q : List Rat) (i : Nat) : Rat := -(2 * ((dof d i).load * at' q i))
def wf (l a b : List Rat) (i : Nat) : Rat := 2 * (at' l i * (at' b i - at' a i))
/-- Degrees of freedom with small numbers. -/
def Dofs (d : List api_Dof) : Prop := ∀ x ∈ d, DofOk x
theorem double_ok {m n : Nat} {a b : Rat} (ha : Bd m a) (hb : Bd n b) (hm : m ≤ 500000000) (hn : n ≤ 500000000) : F_energy_double a b = some (2 * (a * b)) := by
  unfold F_energy_double
  rw [qof21, oB, qmul_ok ha hb (by omega) (by omega), oB, qmul_ok Bd2 (ha.mul hb) (by omega) (by omega), oB]
theorem kin_acc {d : List api_Dof} {v : List Rat} {m : Nat} (hd : Dofs d) (hv : Bds m v) (hl : v.length = d.length) (hm : m ≤ 1000000) : AccOk (m + m + 8) ⟨(d.length : Int), F_energy_kinetic_1 v d⟩ d.length (kf d v) := by
  refine ⟨rfl, fun i hi => ?_, fun i hi => ?_⟩
  · have hx := hv _ (at_mem (l := v) (i := i) (by omega))
    have hq := hd _ (dof_mem (d := d) hi)
    show F_energy_kinetic_1 v d (i : Int) = _
    unfold F_energy_kinetic_1
    rw [rdAt (by omega), oB, oB, qmul_ok hx hx (by omega) (by omega), oB, rdDof hi, oB, qdiv_ok (hx.mul hx) hq.1 (by omega) (by omega), oB]
    rfl
  · have hx := hv _ (at_mem (l := v) (i := i) (by omega))
    have hq := hd _ (dof_mem (d := d) hi)
    exact (hx.mul hx).div hq.1
theorem sto_acc {d : List api_Dof} {q : List Rat} {m : Nat} (hd : Dofs d) (hv : Bds m q) (hl : q.length = d.length) (hm : m ≤ 1000000) : AccOk (m + 10) ⟨(d.length : Int), F_energy_stored_1 d q⟩ d.length (sf d q) := by
  refine ⟨rfl, fun i hi => ?_, fun i hi => ?_⟩
  · have hx := hv _ (at_mem (l := q) (i := i) (by omega))
    have hq := hd _ (dof_mem (d := d) hi)
    show F_energy_stored_1 d q (i : Int) = _
    unfold F_energy_stored_1
    rw [rdDof hi, oB, rdAt (by omega), oB, double_ok hq.2.2 hx (by omega) (by omega), oB, qneg_ok (Bd2.mul (hq.2.2.mul hx)) (by omega), oB]
    rfl
  · have hx := hv _ (at_mem (l := q) (i := i) (by omega))
    have hq := hd _ (dof_mem (d := d) hi)
    exact (Bd2.mul (hq.2.2.mul hx)).neg.mono (by omega)
theorem wor_acc {l : List Rat} {a b : api_State} {m k : Nat} (hl : Bds m l) (ha : Bds k a.q) (hb : Bds k b.q) (h1 : a.q.length = l.length) (h2 : b.q.length = l.length) (hm : m ≤ 1000000) (hk : k ≤ 1000000) : AccOk (m + k + k + 3) ⟨(l.length : Int), F_energy_work_1 l b a⟩ l.length (wf l a.q b.q) := by
  refine ⟨rfl, fun i hi => ?_, fun i hi => ?_⟩
  · have hx := hl _ (at_mem (l := l) hi)
    have hy := ha _ (at_mem (l := a.q) (i := i) (by omega))
    have hz := hb _ (at_mem (l := b.q) (i := i) (by omega))
    show F_energy_work_1 l b a (i : Int) = _
    unfold F_energy_work_1
    rw [rdAt hi, oB, rdAt (by omega), oB, rdAt (by omega), oB, qsub_ok hz hy (by omega) (by omega), oB, double_ok hx (hz.sub hy) (by omega) (by omega), oB]
    rfl
  · have hx := hl _ (at_mem (l := l) hi)
    have hy := ha _ (at_mem (l := a.q) (i := i) (by omega))
    have hz := hb _ (at_mem (l := b.q) (i := i) (by omega))
    exact (Bd2.mul (hx.mul (hz.sub hy))).mono (by omega)
theorem AccOk.mono {c c' n : Nat} {a : energy_account} {f : Nat → Rat} (h : AccOk c a n f) (hc : c ≤ c') : AccOk c' a n f := ⟨h.hn, h.hof, fun i hi => (h.hbd i hi).mono hc⟩

/-- A state that fits. -/
structure StOk (n m : Nat) (s : api_State) : Prop where
  q : Bds m s.q
  v : Bds m s.v
  ql : s.q.length = n
  vl : s.v.length = n
theorem Kinetic_ok {d : List api_Dof} {v : List Rat} {m : Nat} (hd : Dofs d) (hv : Bds m v) (hl : v.length = d.length) (hm : m ≤ 1000) (hn : d.length ≤ 100) : Bd 1000000 (sm (kf d v) d.length) ∧ Ev (fun K => F_energy_Kinetic K d v) (sm (kf d v) d.length) := by
  have h := sum_ok (c := m + m + 8) (N := 100) (l := [⟨(d.length : Int), F_energy_kinetic_1 v d⟩]) (fs := [(d.length, kf d v)]) ⟨kin_acc hd hv hl (by omega), hn, trivial⟩ (by omega) (by simp) (by simp; omega)
  simp only [tot, Rat.zero_add, List.length_singleton] at h
  refine ⟨h.1.mono (by omega), ?_⟩
  unfold F_energy_Kinetic F_energy_kinetic
  simp only [oB]
  exact Ev.bind h.2 (Ev.pure _)
theorem Stored_ok {d : List api_Dof} {q : List Rat} {m : Nat} (hd : Dofs d) (hv : Bds m q) (hl : q.length = d.length) (hm : m ≤ 1000) (hn : d.length ≤ 100) : Bd 1000000 (sm (sf d q) d.length) ∧ Ev (fun K => F_energy_Stored K d q) (sm (sf d q) d.length) := by
  have h := sum_ok (c := m + m + 10) (N := 100) (l := [⟨(d.length : Int), F_energy_stored_1 d q⟩]) (fs := [(d.length, sf d q)]) ⟨(sto_acc hd hv hl (by omega)).mono (by omega), hn, trivial⟩ (by omega) (by simp) (by simp; omega)
  simp only [tot, Rat.zero_add, List.length_singleton] at h
  refine ⟨h.1.mono (by omega), ?_⟩
  unfold F_energy_Stored F_energy_stored
  simp only [oB]
  exact Ev.bind h.2 (Ev.pure _)
theorem Total_ok {x : api_Model} {s : api_State} {m : Nat} (hd : Dofs x.dofs) (hs : StOk x.dofs.length m s) (hm : m ≤ 1000) (hn : x.dofs.length ≤ 100) : Bd 1000000 (sm (kf x.dofs s.v) x.dofs.length + sm (sf x.dofs s.q) x.dofs.length) ∧ Ev (fun K => F_energy_Total K x s) (sm (kf x.dofs s.v) x.dofs.length + sm (sf x.dofs s.q) x.dofs.length) := by
  have h := sum_ok (c := m + m + 10) (N := 100) (l := [⟨(x.dofs.length : Int), F_energy_kinetic_1 s.v x.dofs⟩, ⟨(x.dofs.length : Int), F_energy_stored_1 x.dofs s.q⟩]) (fs := [(x.dofs.length, kf x.dofs s.v), (x.dofs.length, sf x.dofs s.q)]) ⟨(kin_acc hd hs.v hs.vl (by omega)).mono (by omega), hn, (sto_acc hd hs.q hs.ql (by omega)).mono (by omega), hn, trivial⟩ (by omega) (by simp) (by simp; omega)
  simp only [tot, Rat.zero_add, List.length_cons, List.length_nil] at h
  refine ⟨h.1.mono (by omega), ?_⟩
  unfold F_energy_Total F_energy_kinetic F_energy_stored
  simp only [oB]
  exact Ev.bind h.2 (Ev.pure _)
/-- What is lost. -/
def lost (d : List api_Dof) (l : List Rat) (a b : api_State) : Rat := sm (kf d a.v) d.length + sm (sf d a.q) d.length + sm (wf l a.q b.q) d.length - (sm (kf d b.v) d.length + sm (sf d b.q) d.length)
theorem Lost_ok {x : api_Model} {l : List Rat} {a b : api_State} {m : Nat} (hd : Dofs x.dofs) (hl : Bds m l) (hll : l.length = x.dofs.length) (ha : StOk x.dofs.length m a) (hb : StOk x.dofs.length m b) (hm : m ≤ 1000) (hn : x.dofs.length ≤ 100) : Bd 3000000 (lost x.dofs l a b) ∧ Ev (fun K => F_energy_Lost K x l a b) (lost x.dofs l a b) := by
  have h := sum_ok (c := m + m + m + 10) (N := 100) (l := [⟨(x.dofs.length : Int), F_energy_kinetic_1 a.v x.dofs⟩, ⟨(x.dofs.length : Int), F_energy_stored_1 x.dofs a.q⟩, ⟨(l.length : Int), F_energy_work_1 l b a⟩])
    (fs := [(x.dofs.length, kf x.dofs a.v), (x.dofs.length, sf x.dofs a.q), (x.dofs.length, wf l a.q b.q)])
    ⟨(kin_acc hd ha.v ha.vl (by omega)).mono (by omega), hn, (sto_acc hd ha.q ha.ql (by omega)).mono (by omega), hn, hll ▸ (wor_acc hl ha.q hb.q (by rw [ha.ql, hll]) (by rw [hb.ql, hll]) (by omega) (by omega)).mono (by omega), hn, trivial⟩ (by omega) (by simp) (by simp; omega)
  simp only [tot, Rat.zero_add, List.length_cons, List.length_nil] at h
  obtain ⟨t1, t2⟩ := Total_ok hd hb hm hn
  have h1 := h.1.mono (n := 1000000) (by omega)
  refine ⟨(h1.sub t1).mono (by omega), ?_⟩
  unfold F_energy_Lost F_energy_kinetic F_energy_stored F_energy_work
  simp only [oB]
  refine Ev.bind h.2 (Ev.bind t2 ?_)
  simp only [qsub_ok h1 t1 (by omega) (by omega), oB]
  exact Ev.pure _
set_option maxRecDepth 100000 in
theorem lives21 (K : Nat) : F_gantrylaw21_lives (K + 40) = some true := by kernel_rfl
theorem lives21_ok : Ev (fun K => F_gantrylaw21_lives K) true := ⟨40, fun K hK => by
  obtain ⟨k, rfl⟩ := Nat.exists_eq_add_of_le hK
  rw [Nat.add_comm]; exact lives21 k⟩
end Go.Proofs.YtkjnngaceacmdaaGreat
