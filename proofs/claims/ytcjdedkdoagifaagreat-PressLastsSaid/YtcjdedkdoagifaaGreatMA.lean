/- Matrices: the reduced rows, and what gantryref09.Reduced computes. -/
import Derived.Test.YtcjdedkdoagifaaGreatLB
set_option linter.unusedVariables false
namespace Go.Proofs.YtcjdedkdoagifaaGreat
/-- All numbers of a matrix are small. -/
def Bdx (h w b:Nat) (g:Nat→Nat→Rat):Prop:=∀i c,i<h→c<w→Bd b (g i c)
theorem Bdx.mono {h w b b':Nat} {g:Nat→Nat→Rat} (hg:Bdx h w b g) (hb:b≤b'):Bdx h w b' g:=fun i c hi hc=>(hg i c hi hc).mono hb
def swp (g:Nat→Nat→Rat) (n at0 i:Nat):Nat→Rat:=g (if i=n then at0 else if i=at0 then n else i)
theorem aBG {h n at0 i:Nat} (hn:n<h) (ha:at0<h) (hi:i<h):(if i=n then at0 else if i=at0 then n else i)<h:=by split;exact ha;split;exact hn;exact hi
end Go.Proofs.YtcjdedkdoagifaaGreat
