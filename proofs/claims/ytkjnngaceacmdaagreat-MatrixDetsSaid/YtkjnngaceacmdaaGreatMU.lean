/- Determinants of products, ranks of turned matrices, elimination without a search for pivots. -/
import Derived.Test.YtkjnngaceacmdaaGreatMT
import Derived.Test.YtkjnngaceacmdaaGreatMN
import Derived.Test.YtkjnngaceacmdaaGreatMP
set_option linter.unusedVariables false
namespace Go.Proofs.YtkjnngaceacmdaaGreat

theorem sgn0' : sgn 0 = 1 := rfl
def unitM (i c : Nat) : Rat := if i = c then 1 else 0
theorem dt_unit : ∀ n, dt n unitM = 1
  | 0 => rfl
  | n + 1 => by
    rw [dt, sm_one (p := 0) (by omega) fun k _ hk => by unfold unitM; rw [if_neg (fun e => hk e.symm)]; grind]
    have e : dt n (mnr unitM 0) = dt n unitM := dt_congr fun i c _ _ => by
      unfold mnr unitM skp
      rw [if_neg (Nat.not_lt_zero c)]
      by_cases h : i = c
      · rw [if_pos h, if_pos (by omega)]
      · rw [if_neg h, if_neg (by omega)]
    rw [e, dt_unit n, sgn0']
    unfold unitM
    rw [if_pos rfl]; grind
theorem pat_ge {h k : Nat} {s : RS} (hs : RJ h k s) : ∀ i, i < s.ps.length → i ≤ pat s.ps i
  | 0, _ => Nat.zero_le _
  | i + 1, hi => by
    have := pat_ge hs i (by omega)
    have := hs.inc i (i + 1) (by omega) hi
    omega
theorem pat_room {h k : Nat} {s : RS} (hs : RJ h k s) : ∀ t i, i + t + 1 = s.ps.length → pat s.ps i + t < k
  | 0, i, hi => hs.pk i (by omega)
  | t + 1, i, hi => by
    have := pat_room hs t (i + 1) (by omega)
    have := hs.inc i (i + 1) (by omega) (by omega)
    omega
/-- As many pivots as columns: the pivots are the columns. -/
theorem pat_full {h k : Nat} {s : RS} (hs : RJ h k s) (hf : s.ps.length = k) {i : Nat} (hi : i < k) : pat s.ps i = i := by
  have h1 := pat_ge hs i (by omega)
  have h2 := pat_room hs (k - 1 - i) i (by omega)
  omega
theorem full_unit {h k : Nat} {s : RS} (hs : RJ h k s) (hf : s.ps.length = k) {i c : Nat} (hi : i < h) (hc : c < k) : s.g i c = if i = c then 1 else 0 := by
  have := hs.one c i (by omega) hi
  rw [pat_full hs hf hc] at this
  exact this
/-- The determinant, by what was done to the rows. -/
def detR (g : Nat → Nat → Rat) (n : Nat) : Rat := if (red g n n).ps.length = n then (red g n n).d else 0
theorem dt_red {g : Nat → Nat → Rat} {n : Nat} : dt n g = detR g n := by
  have hJ := red_J (g := g) (h := n) n
  unfold detR
  rw [(dt_alt n).red0 (g := g) n]
  split
  · rename_i hf
    rw [dt_congr (g' := unitM) fun i c hi hc => full_unit hJ hf hi hc, dt_unit]; grind
  · rename_i hf
    have hlt : (red g n n).ps.length < n := by have := hJ.ph; omega
    rw [dt_congr (g' := fun i c => if c < n then (red g n n).g i c else 0) fun i c hi hc => by rw [if_pos hc], (dt_alt n).zero (i := n - 1) (by omega) ?_]
    · grind
    · funext c
      split
      · rename_i hc
        exact hJ.z (n - 1) c (by omega) (by omega) hc
      · rfl
def rank (g : Nat → Nat → Rat) (h w : Nat) : Nat := (red g h w).ps.length
end Go.Proofs.YtkjnngaceacmdaaGreat
