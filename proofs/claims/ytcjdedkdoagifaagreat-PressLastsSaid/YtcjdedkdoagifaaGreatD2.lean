/- How whole and rational numbers lie in the program's numbers. -/
import Derived.Test.YtcjdedkdoagifaaGreatK14
set_option linter.unusedVariables false
namespace Go.Proofs.YtcjdedkdoagifaaGreat
/-- The digits of a number, the least one first. -/
def cJ (n:Nat):List Int:=if h:n=0 then [] else((n%1000000000:Nat):Int)::cJ (n/1000000000)
termination_by n
decreasing_by omega
def Z (n:Int):aP:=⟨decide (n<0),cJ n.natAbs⟩
theorem aFX:∃f:Rat→cB,∀q,f q=⟨Z q.num,if q.den=1 then⟨false,[]⟩ else Z q.den⟩:=⟨_,fun _=>rfl⟩
noncomputable def Qr:Rat→cB:=Classical.choose aFX
theorem yH (q:Rat):Qr q=⟨Z q.num,if q.den=1 then⟨false,[]⟩ else Z q.den⟩:=Classical.choose_spec aFX q
noncomputable def eQ (q:Rat):List CP:=(Qr q).e
noncomputable def cQ:Cd Rat:=⟨4,eQ,fun _=>rfl⟩
theorem s9:cJ 0=[]:=by unfold cJ;simp
theorem Qr0:Qr 0=⟨⟨false,[]⟩,⟨false,[]⟩⟩:=by rw [yH];simp [Z,s9]
theorem eQ0 (M:mX):bR M (eQ 0) [.bool false,.slice none 0 0,.bool false,.slice none 0 0]:=by
 unfold eQ;rw [Qr0];exact⟨rfl,eJ cI M,rfl,eJ cI M,trivial⟩
def qs (q:Rat):Bool:=Nat.ble q.num.natAbs.log2 1073741824&&Nat.ble q.den.log2 1073741824
def zD (a b:Rat):Option Rat:=bif qs a&&qs b then some (a+b) else none
def aF0 (a b:Rat):Option Rat:=bif qs a&&qs b then some (a-b) else none
def yA (a b:Rat):Option Rat:=bif qs a&&qs b then some (a*b) else none
def aFE (a b:Rat):Option Rat:=bif qs a&&qs b then some (a/b) else none
def aAd (a:Rat):Option Rat:=bif qs a then some (-a) else none
def s5 (a:Rat):Option Int:=bif qs a then some a.num.sign else none
def u9 (a b:Rat):Option Bool:=bif qs a&&qs b then some (decide (a=b)) else none
def wP (p q:Int):Option Rat:=(bQ p).bind fun p=>(bQ q).bind fun q=>some ((p:Rat)/q)
end Go.Proofs.YtcjdedkdoagifaaGreat
