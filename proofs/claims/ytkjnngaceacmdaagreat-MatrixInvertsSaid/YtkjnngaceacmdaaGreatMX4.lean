/- The law MatrixDets, without a program in sight. -/
import Derived.Test.YtkjnngaceacmdaaGreatMD
set_option linter.unusedVariables false
namespace Go.Proofs.YtkjnngaceacmdaaGreat

theorem slMp2 {α : Type} {f : Nat → α} {n i j : Nat} (h1 : i ≤ j) (h2 : j ≤ n) : slL (mp f n) (i : Int) (j : Int) = some (mp (fun c => f (i + c)) (j - i)) := by
  unfold slL
  rw [if_pos ⟨by omega, by omega, by rw [mp_len]; omega⟩]
  congr 1
  apply List.ext_getElem?
  intro c
  simp only [Int.toNat_natCast]
  rw [List.getElem?_take, List.getElem?_drop]
  by_cases hc : c < j - i
  · rw [if_pos hc, mp_get hc, mp_get (by omega)]
  · rw [if_neg hc, List.getElem?_eq_none (by simp [mp]; omega)]
theorem mnr_row {g : Nat → Nat → Rat} {n k i : Nat} (hk : k < n + 1) : mp (g (i + 1)) k ++ mp (fun c => g (i + 1) (k + 1 + c)) (n + 1 - (k + 1)) = mp (mnr g k i) n := by
  rw [mp_app, show k + (n + 1 - (k + 1)) = n by omega]
  refine mp_congr fun c hc => ?_
  unfold mnr skp
  by_cases h : c < k
  · rw [if_pos h, if_pos h]
  · rw [if_neg h, if_neg h, show k + 1 + (c - k) = c + 1 by omega]
theorem without_l23 {g : Nat → Nat → Rat} {n c : Nat} (hn : n ≤ 64) (hc : c < n + 1) (K : Nat) : ∀ (t i k : Nat), i + t = n → t < k → F_gantryref09_without_l23 K (mx g (n + 1) (n + 1)) (c : Int) k (mx (mnr g c) i n) ((i + 1 : Nat) : Int) = some (mx (mnr g c) n n)
  | 0, i, k, hi, hk => by
    obtain ⟨k', rfl, _⟩ := fuel hk
    have : i = n := by omega
    subst this
    simp only [F_gantryref09_without_l23, mx_len, dF (show ¬ ((i + 1 : Nat) : Int) < ((i + 1 : Nat) : Int) by omega), cF0]
  | t + 1, i, k, hi, hk => by
    obtain ⟨k', rfl, _⟩ := fuel hk
    have hl : i + 1 < n + 1 := by omega
    have s1 := slMp2 (f := g (i + 1)) (n := n + 1) (i := 0) (j := c) (by omega) (by omega)
    simp only [Int.natCast_zero, Nat.zero_add, Nat.sub_zero] at s1
    have s2 := slMp2 (f := g (i + 1)) (n := n + 1) (i := c + 1) (j := n + 1) (by omega) (by omega)
    have a1 : apL ([] : List Rat) (mp (g (i + 1)) c) = some (mp (g (i + 1)) c) := by rw [apL_ok (by rw [mp_len, List.length_nil]; omega), List.nil_append]
    have a2 : apL (mp (g (i + 1)) c) (mp (fun j => g (i + 1) (c + 1 + j)) (n + 1 - (c + 1))) = some (mp (mnr g c i) n) := by rw [apL_ok (by rw [mp_len, mp_len]; omega), mnr_row hc]
    have e4 : apL (mx (mnr g c) i n) [mp (mnr g c i) n] = some (mx (mnr g c) (i + 1) n) := apM (g := fun i => mp (mnr g c i) n) (by omega)
    have e5 : (fun c => g (i + 1) c) = g (i + 1) := rfl
    simp only [F_gantryref09_without_l23, mx_len, dT (show ((i + 1 : Nat) : Int) < ((n + 1 : Nat) : Int) by omega), cT0, rdMx (g := g) (w := n + 1) hl, oB, s1, e5, a1, ckS (i := c) (by omega), mp_len, s2, a2, e4, ckS (i := i + 1) (by omega)]
    exact without_l23 hn hc K t (i + 1) k' (by omega) (by omega)
theorem without_ok {g : Nat → Nat → Rat} {n c : Nat} (hn : n ≤ 64) (hc : c < n + 1) {K : Nat} (hK : n < K) : F_gantryref09_without K (mx g (n + 1) (n + 1)) (c : Int) = some (mx (mnr g c) n n) := by
  have := without_l23 (g := g) hn hc K n 0 K (by omega) hK
  have z : mx (mnr g c) 0 n = [] := rfl
  rw [z, show ((0 + 1 : Nat) : Int) = 1 from rfl] at this
  simp only [F_gantryref09_without, this, oB, F_gantryref09_without_j24]
/-- The size of a determinant. -/
def dtb (b : Nat) : Nat → Nat
  | 0 => 2
  | n + 1 => 1 + (n + 1) * (b + dtb b n + 1)
/-- The first terms. -/
def dps (g : Nat → Nat → Rat) (n i : Nat) : Rat := sm (fun k => sgn k * (g 0 k * dt n (mnr g k))) i
theorem dps_succ {g : Nat → Nat → Rat} {n i : Nat} : dps g n (i + 1) = dps g n i + sgn i * (g 0 i * dt n (mnr g i)) := rfl
theorem sgn_mul_bd {m k : Nat} {a : Rat} (h : Bd m a) : Bd m (sgn k * a) := by
  unfold sgn
  split
  · rw [Rat.one_mul]; exact h
  · have : (-1 : Rat) * a = -a := by grind
    rw [this]; exact h.neg
theorem rDet_l11 {self : List (List Rat) → Option Rat} {g : Nat → Nat → Rat} {n b : Nat} (hg : Bdx (n + 1) (n + 1) b g) (hs : ∀ k, k < n + 1 → self (mx (mnr g k) n n) = some (dt n (mnr g k)) ∧ Bd (dtb b n) (dt n (mnr g k))) (hB : dtb b (n + 1) ≤ 1000000000) (hn : n ≤ 64) {K : Nat} (hK : n < K) :
    ∀ (t i k : Nat), i + t = n + 1 → t < k → Bd (1 + i * (b + dtb b n + 1)) (dps g n i) → F_gantryref09_Det_b_l11 K (mx g (n + 1) (n + 1)) self k (dps g n i) (i : Int) = some (dt (n + 1) g) ∧ Bd (dtb b (n + 1)) (dt (n + 1) g)
  | 0, i, k, hi, hk, ha => by
    obtain ⟨k', rfl, _⟩ := fuel hk
    have : i = n + 1 := by omega
    subst this
    refine ⟨?_, ha⟩
    simp only [F_gantryref09_Det_b_l11, mx_len, dF (show ¬ ((n + 1 : Nat) : Int) < ((n + 1 : Nat) : Int) by omega), cF0]
    rfl
  | t + 1, i, k, hi, hk, ha => by
    obtain ⟨k', rfl, _⟩ := fuel hk
    have hl : i < n + 1 := by omega
    have hx := hg 0 i (by omega) hl
    obtain ⟨s1, s2⟩ := hs i hl
    have hib : i * (b + dtb b n + 1) ≤ (n + 1) * (b + dtb b n + 1) := Nat.mul_le_mul_right _ (by omega)
    have h1 : b + dtb b n + 1 ≤ (n + 1) * (b + dtb b n + 1) := Nat.le_mul_of_pos_left _ (by omega)
    simp only [dtb] at hB
    have ht := hx.mul s2
    have r0 := rdMx (g := g) (w := n + 1) (show 0 < n + 1 by omega)
    simp only [Int.natCast_zero] at r0
    have hnext : Bd (1 + (i + 1) * (b + dtb b n + 1)) (dps g n (i + 1)) := by
      rw [dps_succ]
      exact (ha.add (sgn_mul_bd ht)).mono (by rw [Nat.add_mul]; omega)
    obtain ⟨r1, r2⟩ := rDet_l11 hg hs (by simp only [dtb]; omega) hn hK t (i + 1) k' (by omega) (by omega) hnext
    refine ⟨?_, r2⟩
    rw [dps_succ] at r1
    simp only [F_gantryref09_Det_b_l11, mx_len, dT (show (i : Int) < ((n + 1 : Nat) : Int) by omega), cT0, r0, oB, rdMp (f := g 0) hl, qsgn_ok hx (by omega)]
    by_cases hz : g 0 i = 0
    · rw [hz] at r1
      have e : dps g n i + sgn i * (0 * dt n (mnr g i)) = dps g n i := by grind
      rw [e] at r1
      simp only [qT (sgn0.2 hz), cT0, ckS (i := i) (by omega), oB, r1]
    · have em : chr (i : Int) 2 = some ((i % 2 : Nat) : Int) := by
        rw [chr_ok (by omega) (by omega)]; congr 1
      simp only [qF (fun h => hz (sgn0.1 h)), cF0, without_ok (g := g) hn hl hK, oB, s1, qmul_ok hx s2 (by omega) (by omega), em]
      by_cases hp : i % 2 = 1
      · have es : sgn i * (g 0 i * dt n (mnr g i)) = -(g 0 i * dt n (mnr g i)) := by
          unfold sgn; rw [if_neg (by omega)]; grind
        rw [es] at r1
        simp only [qT (show ((i % 2 : Nat) : Int) = 1 by omega), cT0, qneg_ok ht (by omega), oB, qadd_ok ha ht.neg (by omega) (by omega), ckS (i := i) (by omega), r1]
      · have es : sgn i * (g 0 i * dt n (mnr g i)) = g 0 i * dt n (mnr g i) := by
          unfold sgn; rw [if_pos (by omega)]; grind
        rw [es] at r1
        simp only [qF (show ¬ ((i % 2 : Nat) : Int) = 1 by omega), cF0, qadd_ok ha ht (by omega) (by omega), oB, ckS (i := i) (by omega), r1]
theorem rDet_r {b : Nat} {K : Nat} : ∀ (n k : Nat) (g : Nat → Nat → Rat), n < k → n + 1 < K → n ≤ 64 → (∀ m, m ≤ n → dtb b m ≤ 1000000000) → Bdx n n b g → F_gantryref09_Det_r K k (mx g n n) = some (dt n g) ∧ Bd (dtb b n) (dt n g)
  | 0, k, g, hk, hK, hn, hB, hg => by
    obtain ⟨k', rfl, _⟩ := fuel hk
    exact ⟨by simp only [F_gantryref09_Det_r, F_gantryref09_Det_b, mx_len, qT (show ((0 : Nat) : Int) = 0 from rfl), cT0, qof11, oB, dt], show Bd 2 1 by constructor <;> decide⟩
  | n + 1, k, g, hk, hK, hn, hB, hg => by
    obtain ⟨k', rfl, _⟩ := fuel hk
    obtain ⟨h1, h2⟩ := rDet_l11 (self := F_gantryref09_Det_r K k') hg (fun i hi => rDet_r n k' (mnr g i) (by omega) (by omega) (by omega) (fun m hm => hB m (by omega)) (fun r c hr hc => hg _ _ (by omega) (skp_lt hc))) (hB _ (Nat.le_refl _)) (by omega) (K := K) (by omega) (n + 1) 0 K (by omega) (by omega) (Bd.zero.mono (by omega))
    have z : dps g n 0 = 0 := rfl
    rw [z] at h1
    simp only [Int.natCast_zero] at h1
    exact ⟨by simp only [F_gantryref09_Det_r, F_gantryref09_Det_b, mx_len, qF (show ¬ ((n + 1 : Nat) : Int) = 0 by omega), cF0, h1, oB, F_gantryref09_Det_b_j12], h2⟩
theorem rDet_ok {g : Nat → Nat → Rat} {n b : Nat} (hg : Bdx n n b g) (hn : n ≤ 64) (hB : ∀ m, m ≤ n → dtb b m ≤ 1000000000) {K : Nat} (hK : n + 1 < K) : F_gantryref09_Det K (mx g n n) = some (dt n g) ∧ Bd (dtb b n) (dt n g) := rDet_r n K g (by omega) hK hn hB hg
end Go.Proofs.YtkjnngaceacmdaaGreat
