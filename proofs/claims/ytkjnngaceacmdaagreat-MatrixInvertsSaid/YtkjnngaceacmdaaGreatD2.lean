/- How whole and rational numbers lie in the program's numbers. -/
import Derived.Test.YtkjnngaceacmdaaGreatK14
set_option linter.unusedVariables false
namespace Go.Proofs.YtkjnngaceacmdaaGreat

/-- The digits of a number, the least one first. -/
def digs (n : Nat) : List Int := if h : n = 0 then [] else ((n % 1000000000 : Nat) : Int) :: digs (n / 1000000000)
termination_by n
decreasing_by omega
def Z (n : Int) : GInt := ⟨decide (n < 0), digs n.natAbs⟩
theorem Qr_is : ∃ f : Rat → GRat, ∀ q, f q = ⟨Z q.num, if q.den = 1 then ⟨false, []⟩ else Z q.den⟩ := ⟨_, fun _ => rfl⟩
/-- A rational number as the program holds it; what it is says Qr_def: nothing unfolds it. -/
noncomputable def Qr : Rat → GRat := Classical.choose Qr_is
theorem Qr_def (q : Rat) : Qr q = ⟨Z q.num, if q.den = 1 then ⟨false, []⟩ else Z q.den⟩ := Classical.choose_spec Qr_is q
noncomputable def eQ (q : Rat) : List CP := (Qr q).e
noncomputable def cQ : Cd Rat := ⟨4, eQ, fun _ => rfl⟩
theorem digs0 : digs 0 = [] := by unfold digs; simp
theorem Qr0 : Qr 0 = ⟨⟨false, []⟩, ⟨false, []⟩⟩ := by rw [Qr_def]; simp [Z, digs0]
theorem eQ0 (M : Mem) : All2 M (eQ 0) [.bool false, .slice none 0 0, .bool false, .slice none 0 0] := by
  unfold eQ; rw [Qr0]; exact ⟨rfl, k_nil cI M, rfl, k_nil cI M, trivial⟩
/-- A number that is not too long. -/
def qs (q : Rat) : Bool := Nat.ble q.num.natAbs.log2 1073741824 && Nat.ble q.den.log2 1073741824
def qadd (a b : Rat) : Option Rat := bif qs a && qs b then some (a + b) else none
def qsub (a b : Rat) : Option Rat := bif qs a && qs b then some (a - b) else none
def qmul (a b : Rat) : Option Rat := bif qs a && qs b then some (a * b) else none
def qdiv (a b : Rat) : Option Rat := bif qs a && qs b then some (a / b) else none
def qneg (a : Rat) : Option Rat := bif qs a then some (-a) else none
def qsgn (a : Rat) : Option Int := bif qs a then some a.num.sign else none
def qsame (a b : Rat) : Option Bool := bif qs a && qs b then some (decide (a = b)) else none
def qof (p q : Int) : Option Rat := (chk p).bind fun p => (chk q).bind fun q => some ((p : Rat) / q)
end Go.Proofs.YtkjnngaceacmdaaGreat
