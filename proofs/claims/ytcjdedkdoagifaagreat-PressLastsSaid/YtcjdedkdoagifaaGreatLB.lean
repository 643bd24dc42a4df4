/- Lists of small numbers, and what the generators of small numbers give. -/
import Derived.Test.YtcjdedkdoagifaaGreatL1
import Derived.Test.YtcjdedkdoagifaaGreatQZ
set_option linter.unusedVariables false
namespace Go.Proofs.YtcjdedkdoagifaaGreat
theorem vZ {x m:Int} (hx:-9223372036854775808≤x∧x≤9223372036854775807) (hm:0<m):∃r,eG x m=some r∧0≤r∧r<m:=by
 unfold eG
 by_cases h:x<0
 ·refine⟨(-(x+1))%m,?_,Int.emod_nonneg _ (by omega),Int.emod_lt_of_pos _ hm⟩
  rw [dT h,gL,mM (by omega),oB,mM (by omega),oB,kL (by omega) hm,oB]
 ·refine⟨x%m,?_,Int.emod_nonneg _ (by omega),Int.emod_lt_of_pos _ hm⟩
  rw [dF h,gT,kL (by omega) hm,oB]
theorem uY {l:List Int} (hl:z2 l) (i:Int) {m:Int} (hm:0<m):∃r,bU l i m=some r∧0≤r∧r<m:=by
 unfold bU
 by_cases h:i<0
 ·exact⟨0,by rw [dT h,gL],by omega,hm⟩
 ·rw [dF h,gT]
  by_cases h2:(l.length:Int)≤i
  ·exact⟨0,by rw [dT h2,gL],by omega,hm⟩
  ·rw [dF h2,gT]
   obtain⟨n,rfl⟩:∃n:Nat,i=n:=⟨i.toNat,by omega⟩
   obtain⟨x,hx,_,hr⟩:=rdM (xs:=l) (i:=n) (by omega)
   obtain⟨r,h3,h4,h5⟩:=vZ (hl x hx) hm
   exact⟨r,by rw [hr,oB,h3,oB],h4,h5⟩
theorem vR {a m:Int} (h:0≤a) (hm:0<m):0≤a%m∧a%m<m:=⟨Int.emod_nonneg _ (by omega),Int.emod_lt_of_pos _ hm⟩
theorem aBX {x:Int} (hx:-9223372036854775808≤x∧x≤9223372036854775807):∃r,jS x=some r∧Bd 8 r:=by
 unfold jS
 obtain⟨k,h1,h2,h3⟩:=vZ hx (m:=1099511627776) (by omega)
 have m6:=vR h2 (show(0:Int)<6 by omega)
 rw [h1,oB,kL h2 (by omega),oB,mM (by omega),oB,oM h2 (by omega) (by omega),oB,mM (by omega),oB,mM (by omega),oB]
 have m7:=vR (a:=k/6) (m:=16*(1+k%6)+1) (by omega) (by omega)
 rw [kL (by omega) (by omega),oB,mM (by omega),oB,mM (by omega),oB]
 obtain⟨r,h4,h5,h6⟩:=yN (k:=8) (p:=k/6%(16*(1+k%6)+1)-8*(1+k%6)) (q:=1+k%6) (by omega) (by omega) (by omega) (by omega)
 exact⟨r,by rw [h4,oB],h6⟩
def xC (k:Nat) (xs:List Rat):Prop:=∀x∈xs,Bd k x
theorem xC.snoc {k:Nat} {xs:List Rat} {x:Rat} (h:xC k xs) (hx:Bd k x):xC k (xs++[x]):=fun y hy=>by
 rcases List.mem_append.1 hy with h1|h1
 ·exact h y h1
 ·rw [List.mem_singleton.1 h1];exact hx
theorem apS {α:Type} {xs:List α} {x:α} (h:xs.length≤60000000000):tB xs [x]=some (xs++[x]):=aCS (by simp;omega)
theorem aGa {p q:Int} (hp:p≠0) (hq:q≠0):(p:Rat)/q≠0:=by
 rw [←Rat.divInt_eq_div]
 intro h
 have:=congrArg Rat.num h
 rw [Rat.num_divInt] at this
 have e:(0:Rat).num=0:=rfl
 rw [e] at this
 obtain⟨c,hc⟩:=Int.gcd_dvd_right (a:=q) (b:=p)
 have hg:0<Int.gcd q p:=Int.gcd_pos_of_ne_zero_left p hq
 have h2:q.sign*p/((Int.gcd q p:Nat):Int)=q.sign*c:=by
  conv=>lhs;rw [hc]
  rw [←Int.mul_assoc,Int.mul_comm q.sign,Int.mul_assoc]
  have:((q.gcd (((q.gcd p:Nat):Int)*c):Nat):Int)=((q.gcd p:Nat):Int):=by rw [←hc]
  rw [this]
  exact Int.mul_ediv_cancel_left _ (by omega)
 rw [h2] at this
 rcases Int.mul_eq_zero.1 this with h3|h3
 ·exact hq (Int.sign_eq_zero_iff_zero.1 h3)
 ·subst h3;rw [Int.mul_zero] at hc;exact hp hc
theorem rdD {α:Type} {xs:List α} {i:Nat} (d:α) (h:i<xs.length):dO xs (i:Int)=some (xs.getD i d):=by
 rw [rdG (x:=xs.getD i d)]
 simp [List.getD_eq_getElem?_getD,h]
def at' (l:List Rat) (i:Nat):Rat:=l.getD i 0
theorem aGn {l:List Rat} {i:Nat} (h:i<l.length):dO l (i:Int)=some (at' l i):=rdD _ h
theorem aCK {l:List Rat} {i:Nat} (h:i<l.length):at' l i∈l:=by
 have:at' l i=l[i]:=by unfold at';simp [List.getD_eq_getElem?_getD,h]
 rw [this];exact List.getElem_mem h
def mp {α:Type} (g:Nat→α) (n:Nat):List α:=(List.range n).map g
theorem aED {α:Type} {f g:Nat→α} {n:Nat} (h:∀i,i<n→f i=g i):mp f n=mp g n:=by
 unfold mp
 exact List.map_congr_left fun i hi=>h i (List.mem_range.1 hi)
def upd {α:Type} (f:Nat→α) (i:Nat) (v:α) (j:Nat):α:=if j=i then v else f j
theorem aE1 {α:Type} {f:Nat→α} {i:Nat} {v:α}:upd f i v i=v:=if_pos rfl
theorem aGt {α:Type} {f:Nat→α} {i j:Nat} {v:α} (h:j≠i):upd f i v j=f j:=if_neg h
theorem ckS {i:Nat} (h:i≤1000000000):bQ ((i:Int)+1)=some ((i+1:Nat):Int):=uB (m:=0) (n:=i+1) (by omega) (by omega)
theorem aDQ {a:Rat}:a.num.sign=0↔a=0:=by rw [Int.sign_eq_zero_iff_zero,Rat.num_eq_zero]
end Go.Proofs.YtcjdedkdoagifaaGreat
