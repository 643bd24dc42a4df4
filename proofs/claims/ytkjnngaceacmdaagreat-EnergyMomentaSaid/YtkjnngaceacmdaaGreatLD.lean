/- Degrees of freedom, sums, and the examples of package energy. -/
import Derived.Test.YtkjnngaceacmdaaGreatLB
set_option linter.unusedVariables false
namespace Go.Proofs.YtkjnngaceacmdaaGreat

/-- A degree of freedom with small numbers. -/
def DofOk (d : api_Dof) : Prop := Bd 8 d.inv ∧ d.inv ≠ 0 ∧ Bd 8 d.load
/-! ### Sums -/
def sm (f : Nat → Rat) : Nat → Rat
  | 0 => 0
  | n + 1 => sm f n + f n
/-- An account: what its entries are, and that they are small. -/
structure AccOk (c : Nat) (a : energy_account) (n : Nat) (f : Nat → Rat) : Prop where
  hn : a.n = n
  hof : ∀ i, i < n → a.of (i : Int) = some (f i)
  hbd : ∀ i, i < n → Bd c (f i)
theorem sum_l19 {c n : Nat} {a : energy_account} {f : Nat → Rat} (h : AccOk c a n f) {b0 : Nat} (hB : b0 + n * (c + 1) ≤ 1073741824) (hn : n ≤ 1000000) {a0 : Rat} : ∀ (t i : Nat) (acc : Rat), i + t = n → acc = a0 + sm f i → Bd (b0 + i * (c + 1)) acc →
    Bd (b0 + n * (c + 1)) (a0 + sm f n) ∧ ∀ K k, t < k → F_energy_sum_l19 K a k acc (i : Int) = some (a0 + sm f n)
  | 0, i, acc, hi, he, hb => by
    have : i = n := by omega
    subst this
    refine ⟨he ▸ hb, fun K k hk => ?_⟩
    obtain ⟨k', rfl, _⟩ := fuel hk
    simp only [F_energy_sum_l19, h.hn, dF (show ¬ (i : Int) < (i : Int) by omega), cF0, he]
  | t + 1, i, acc, hi, he, hb => by
    have hfi := h.hbd i (by omega)
    have hmul : i * (c + 1) + (c + 1) ≤ n * (c + 1) := by
      have := Nat.mul_le_mul_right (c + 1) (show i + 1 ≤ n by omega)
      rw [Nat.add_mul, Nat.one_mul] at this; exact this
    obtain ⟨g1, g2⟩ := sum_l19 h hB hn t (i + 1) (acc + f i) (by omega) (by rw [he]; simp only [sm]; rw [Rat.add_assoc]) ((hb.add hfi).mono (by rw [Nat.add_mul]; omega))
    refine ⟨g1, fun K k hk => ?_⟩
    obtain ⟨k', rfl, _⟩ := fuel hk
    simp only [F_energy_sum_l19, h.hn, dT (show (i : Int) < (n : Int) by omega), cT0, h.hof i (by omega), qadd_ok hb hfi (by omega) (by omega), ckN (m := 0) (n := i + 1) (show (i : Int) + 1 = ((i + 1 : Nat) : Int) by omega) (by omega), oB]
    exact g2 K k' (by omega)
/-- Accounts, one behind the other. -/
def AccsOk (c N : Nat) : List energy_account → List (Nat × (Nat → Rat)) → Prop
  | [], [] => True
  | a :: l, f :: r => AccOk c a f.1 f.2 ∧ f.1 ≤ N ∧ AccsOk c N l r
  | _, _ => False
def tot : Rat → List (Nat × (Nat → Rat)) → Rat
  | a, [] => a
  | a, f :: r => tot (a + sm f.2 f.1) r
theorem AccsOk.len {c N : Nat} : ∀ {l : List energy_account} {fs : List (Nat × (Nat → Rat))}, AccsOk c N l fs → l.length = fs.length
  | [], [], _ => rfl
  | _ :: _, _ :: _, h => by simp [h.2.2.len]
  | [], _ :: _, h => h.elim
  | _ :: _, [], h => h.elim
theorem AccsOk.get {c N : Nat} : ∀ {l : List energy_account} {fs : List (Nat × (Nat → Rat))} {i : Nat} {f : Nat × (Nat → Rat)}, AccsOk c N l fs → fs[i]? = some f → ∃ a, l[i]? = some a ∧ AccOk c a f.1 f.2 ∧ f.1 ≤ N
  | [], [], i, f, _, hf => by simp at hf
  | a :: _, g :: _, 0, f, h, hf => by simp at hf; subst hf; exact ⟨a, rfl, h.1, h.2.1⟩
  | _ :: _, _ :: _, i + 1, f, h, hf => by
    obtain ⟨a, h1, h2⟩ := h.2.2.get (i := i) (by simpa using hf)
    exact ⟨a, by simpa using h1, h2⟩
  | [], _ :: _, _, _, h, _ => h.elim
  | _ :: _, [], _, _, h, _ => h.elim
theorem sum_l8 {c N : Nat} {l : List energy_account} {fs : List (Nat × (Nat → Rat))} (h : AccsOk c N l fs) (hN : N ≤ 1000000) (hl : l.length ≤ 1000000) {b0 : Nat} (hB : b0 + l.length * (N * (c + 1)) ≤ 1073741824) : ∀ (t i : Nat) (acc : Rat), i + t = l.length → Bd (b0 + i * (N * (c + 1))) acc →
    Bd (b0 + l.length * (N * (c + 1))) (tot acc (fs.drop i)) ∧ ∀ K k, t < k → N + 1 < K → F_energy_sum_l8 K l k acc (i : Int) = some (tot acc (fs.drop i))
  | 0, i, acc, hi, hb => by
    have : i = l.length := by omega
    subst this
    rw [List.drop_of_length_le (by rw [h.len]; exact Nat.le_refl _)]
    refine ⟨hb, fun K k hk _ => ?_⟩
    obtain ⟨k', rfl, _⟩ := fuel hk
    simp only [F_energy_sum_l8, dF (show ¬ (l.length : Int) < (l.length : Int) by omega), cF0, tot]
  | t + 1, i, acc, hi, hb => by
    have hif : i < fs.length := by rw [← h.len]; omega
    obtain ⟨a, h1, h2, h3⟩ := h.get (i := i) (f := fs[i]) (List.getElem?_eq_getElem hif)
    have hmul : i * (N * (c + 1)) + N * (c + 1) ≤ l.length * (N * (c + 1)) := by
      have := Nat.mul_le_mul_right (N * (c + 1)) (show i + 1 ≤ l.length by omega)
      rw [Nat.add_mul i 1, Nat.one_mul] at this; exact this
    have hmul2 : fs[i].1 * (c + 1) ≤ N * (c + 1) := Nat.mul_le_mul_right _ h3
    obtain ⟨g1, g2⟩ := sum_l19 h2 (b0 := b0 + i * (N * (c + 1))) (by omega) (by omega) (a0 := acc) fs[i].1 0 acc (by omega) (by simp only [sm]; rw [Rat.add_zero]) (hb.mono (by omega))
    obtain ⟨k1, k2⟩ := sum_l8 h hN hl hB t (i + 1) (acc + sm fs[i].2 fs[i].1) (by omega) (g1.mono (by rw [Nat.add_mul]; omega))
    have hdrop : fs.drop i = fs[i] :: fs.drop (i + 1) := List.drop_eq_getElem_cons hif
    rw [hdrop]
    refine ⟨k1, fun K k hk hK => ?_⟩
    obtain ⟨k', rfl, _⟩ := fuel hk
    have g2' := g2 K K (by omega)
    simp only [Int.natCast_zero] at g2'
    simp only [F_energy_sum_l8, dT (show (i : Int) < (l.length : Int) by omega), cT0, rdG h1, g2', F_energy_sum_j20, ckN (m := 0) (n := i + 1) (show (i : Int) + 1 = ((i + 1 : Nat) : Int) by omega) (by omega), oB]
    exact k2 K k' (by omega) (by omega)
theorem sum_ok {c N : Nat} {l : List energy_account} {fs : List (Nat × (Nat → Rat))} (h : AccsOk c N l fs) (hN : N ≤ 1000000) (hl : l.length ≤ 1000000) (hB : 1 + l.length * (N * (c + 1)) ≤ 1073741824) : Bd (1 + l.length * (N * (c + 1))) (tot 0 fs) ∧ Ev (fun K => F_energy_sum K l) (tot 0 fs) := by
  obtain ⟨g1, g2⟩ := sum_l8 h hN hl hB l.length 0 0 (by omega) (Bd.zero.mono (by omega))
  refine ⟨g1, ⟨max l.length (N + 1) + 1, fun K hK => ?_⟩⟩
  have := g2 K K (by omega) (by omega)
  simp only [Int.natCast_zero, List.drop_zero] at this
  simp only [F_energy_sum, this, oB, F_energy_sum_j9]
def dof (d : List api_Dof) (i : Nat) : api_Dof := d.getD i ⟨0, 0, false, 0, 0⟩
theorem rdDof {d : List api_Dof} {i : Nat} (h : i < d.length) : rdL d (i : Int) = some (dof d i) := rdD _ h
theorem dof_mem {d : List api_Dof} {i : Nat} (h : i < d.length) : dof d i ∈ d := by
  have : dof d i = d[i] := by unfold dof; simp [List.getD_eq_getElem?_getD, h]
  rw [this]; exact List.getElem_mem h
/-- Degrees of freedom with small numbers. -/
def Dofs (d : List api_Dof) : Prop := ∀ x ∈ d, DofOk x
theorem AccOk.mono {c c' n : Nat} {a : energy_account} {f : Nat → Rat} (h : AccOk c a n f) (hc : c ≤ c') : AccOk c' a n f := ⟨h.hn, h.hof, fun i hi => (h.hbd i hi).mono hc⟩

set_option maxRecDepth 100000 in
theorem lives21 (K : Nat) : F_gantrylaw21_lives (K + 40) = some true := by kernel_rfl
theorem lives21_ok : Ev (fun K => F_gantrylaw21_lives K) true := ⟨40, fun K hK => by
  obtain ⟨k, rfl⟩ := Nat.exists_eq_add_of_le hK
  rw [Nat.add_comm]; exact lives21 k⟩
end Go.Proofs.YtkjnngaceacmdaaGreat
