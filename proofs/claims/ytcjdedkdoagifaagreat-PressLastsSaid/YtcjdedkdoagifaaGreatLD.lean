/- Degrees of freedom, sums, and the examples of package energy. -/
import Derived.Test.YtcjdedkdoagifaaGreatLB
set_option linter.unusedVariables false
namespace Go.Proofs.YtcjdedkdoagifaaGreat
/-- A degree of freedom with small numbers. -/
def aFU (d:bE):Prop:=Bd 8 d.inv∧d.inv≠0∧Bd 8 d.load
def dof (d:List bE) (i:Nat):bE:=d.getD i ⟨0,0,false,0,0⟩
def aGe (d:List bE):Prop:=∀x∈d,aFU x
end Go.Proofs.YtcjdedkdoagifaaGreat
