/- Comparisons of rational numbers, and which ones are valid. -/
import Derived.Test.YtcjdedkdoagifaaGreatPR
set_option linter.unusedVariables false
namespace Go.Proofs.YtcjdedkdoagifaaGreat
open Rat
def aDW (a b:Rat):Option Int:=bif qs a&&qs b then some (if a<b then -1 else if b<a then 1 else 0) else none
def aBl (a:Rat):Option Bool:=bif qs a then some true else none
theorem aEH (x y:Int) (hx:x<0) (hy:y<0):qP (y.natAbs:Int) (x.natAbs:Int)=qP x y:=by
 unfold qP
 by_cases a:x<y
 ·rw [if_pos a,if_pos (by omega)]
 ·rw [if_neg a,if_neg (by omega)]
  by_cases b:y<x
  ·rw [if_pos b,if_pos (by omega)]
  ·rw [if_neg b,if_neg (by omega)]
theorem zT {x y:Int} (hx:dl x.natAbs≤9000000000000) (hy:dl y.natAbs≤9000000000000):Ev (fun K=>jP K (Z x) (Z y)) (qP x y):=by
 have dx:=cG x.natAbs;have dy:=cG y.natAbs
 have tx:=k6 x.natAbs;have ty:=k6 y.natAbs
 unfold jP
 simp only [Z_d,qE]
 by_cases h1:x<0
 ·by_cases h2:y<0
  ·simp only [dT h1,dT h2,bne_self_eq_false,gT,gL]
   have h:=tD dy dx ty tx (by show dl _≤_;omega)
   rw [dN,dN,aEH x y h1 h2] at h
   exact Ev.bind h (Ev.pure _)
  ·simp only [dT h1,dF h2,Bool.bne_false,gL]
   unfold qP
   rw [if_pos (by omega)]
   exact Ev.pure _
 ·by_cases h2:y<0
  ·simp only [dF h1,dT h2,Bool.bne_true,Bool.not_false,gL,gT]
   unfold qP
   rw [if_neg (by omega),if_pos (by omega)]
   exact Ev.pure _
  ·simp only [dF h1,dF h2,bne_self_eq_false,gT]
   have h:=tD dx dy tx ty (by show dl _≤_;omega)
   rw [dN,dN,show((x.natAbs:Nat):Int)=x by omega,show((y.natAbs:Nat):Int)=y by omega] at h
   exact Ev.bind h (Ev.pure _)
theorem aDF (a b:Rat):(if a<b then -1 else if b<a then 1 else 0:Int)=qP (a.num*b.den) (b.num*a.den):=by
 unfold qP
 simp only [Rat.lt_iff]
theorem aAj (u v:Int) (p q:Nat) (hp:0<p) (hq:0<q) (h:u.sign≠v.sign∨u=0∧v=0):qP u.sign v.sign=qP (u*q) (v*p):=by
 have key:∀(w:Int) (n:Nat),0<n→(w<0∧w.sign=-1∧w*n<0)∨(w=0∧w.sign=0∧w*n=0)∨(0<w∧w.sign=1∧0<w*n):=fun w n hn=>by
  rcases Int.lt_trichotomy w 0 with hw|hw|hw
  ·exact .inl ⟨hw,Int.sign_eq_neg_one_of_neg hw,Int.mul_neg_of_neg_of_pos hw (by omega)⟩
  ·exact .inr (.inl ⟨hw,by rw [hw];rfl,by rw [hw,Int.zero_mul]⟩)
  ·exact .inr (.inr ⟨hw,Int.sign_eq_one_of_pos hw,Int.mul_pos hw (by omega)⟩)
 unfold qP
 rcases key u q hq with⟨_,e1,e2⟩|⟨_,e1,e2⟩|⟨_,e1,e2⟩<;>rcases key v p hp with⟨_,f1,f2⟩|⟨_,f1,f2⟩|⟨_,f1,f2⟩<;>rw [e1,f1] at h<;>rw [e1,f1]<;>(repeat' split)<;>omega
theorem aC8 (u:Int):-9223372036854775808≤u.sign∧u.sign≤9223372036854775807∧dl u.sign.natAbs≤1:=by
 have h1:dl 1=1:=dl1
 have h0:dl 0=0:=rD
 rcases Int.lt_trichotomy u 0 with hw|hw|hw
 ·rw [Int.sign_eq_neg_one_of_neg hw];exact⟨by omega,by omega,by show dl 1≤1;omega⟩
 ·rw [hw];exact⟨by decide,by decide,by show dl 0≤1;omega⟩
 ·rw [Int.sign_eq_one_of_pos hw];exact⟨by omega,by omega,by show dl 1≤1;omega⟩
theorem aCh {a b:Rat} (ha:qs a=true) (hb:qs b=true):Ev (fun K=>rW K (Qr a) (Qr b)) (if a<b then -1 else if b<a then 1 else 0):=by
 obtain⟨a1,a2⟩:=r5 ha
 obtain⟨b1,b2⟩:=r5 hb
 obtain⟨c1,c2,c3⟩:=wC ha hb
 obtain⟨s1,s2,s3⟩:=aC8 a.num
 obtain⟨t1,t2,t3⟩:=aC8 b.num
 have ad:=a.den_pos
 have bd:=b.den_pos
 rw [aDF]
 unfold rW
 simp only [aBS,oB,aAz ⟨s1,s2⟩,aAz ⟨t1,t2⟩]
 by_cases h:a.num.sign=b.num.sign
 ·simp only [nF h,gT]
  by_cases h0:a.num.sign=0
  ·simp only [qT h0,gL]
   have e:=aAj a.num b.num a.den b.den ad bd (.inr ⟨Int.sign_eq_zero_iff_zero.1 h0,Int.sign_eq_zero_iff_zero.1 (h▸h0)⟩)
   rw [←e]
   exact Ev.bind (zT (by omega) (by omega)) (Ev.pure _)
  ·simp only [qF h0,gT,xO,oB,Qp]
   exact Ev.bind (tA (by simp;omega)) (Ev.bind (tA (by simp;omega)) (Ev.bind (zT (by omega) (by omega)) (Ev.pure _)))
 ·simp only [nT h,gL]
  rw [←aAj a.num b.num a.den b.den ad bd (.inl h)]
  exact Ev.bind (zT (by omega) (by omega)) (Ev.pure _)
theorem vdig {d:Int} (h:0≤d∧d<1000000000):iE d=some false:=by
 unfold iE
 rw [dF (by omega),gT,dF (by omega)]
theorem aBQ {xs:List Int} (hd:jB xs) (hl:xs.length≤9000000000000) (K:Nat):∀(m i:Nat),i+m=xs.length→∀k,m<k→eY K xs iE k i=some (.go ())
 |0,i,h,k+1,_=>by
  simp only [eY]
  rw [dF (by omega),gT]
 |m+1,i,h,k+1,hk=>by
  simp only [eY]
  rw [dT (by omega),gL,dC (by omega),oB,vdig (hd i),oB,gT,show((i:Nat):Int)+1=((i+1:Nat):Int) by omega,aE4 (by omega) (by omega),oB]
  exact aBQ hd hl K m (i+1) (by omega) k (by omega)
theorem aEJ {n:Nat} (h:dl n≠0):(cJ n).getD (dl n-1) 0≠0:=by
 rcases k6 n with h1|h1
 ·exact absurd (by unfold dl;rw [h1];rfl) h
 ·exact h1
theorem aEF {x:Int} (hx:dl x.natAbs≤9000000000000):Ev (fun K=>lH K (Z x)) true:=by
 refine⟨dl x.natAbs+1,fun K hK=>?_⟩
 have hc:hU K (cJ x.natAbs) iE=some false:=by
  unfold hU lS
  have:=aBQ (cG x.natAbs) (by show dl _≤_;omega) K (dl x.natAbs) 0 (by show 0+dl _=dl _;omega) K (by omega)
  rw [show((0:Nat):Int)=0 from rfl] at this
  rw [this]
  rfl
 show lH K (Z x)=some true
 unfold lH
 have hl0:(((cJ x.natAbs).length:Int)==0)=decide (x=0):=yP
 rw [Z_d,hc,oB,gT,hl0]
 by_cases h:x=0
 ·rw [dT h,gL,qE,dF (by omega)];rfl
 ·have hl:dl x.natAbs≠0:=by rw [Ne,rH];omega
  have hlen:(cJ x.natAbs).length=dl x.natAbs:=rfl
  rw [dF h,gT,dT (by omega),gL,aE4 (by omega) (by omega),oB,hlen,show((dl x.natAbs:Nat):Int)-1=((dl x.natAbs-1:Nat):Int) by omega,dC (by omega),oB,nT (aEJ hl)]
theorem Qr_Z (a:Rat):Qr a=⟨Z a.num,Z (if a.den=1 then 0 else a.den)⟩:=by
 rw [yH]
 by_cases h:a.den=1
 ·rw [if_pos h,if_pos h,Z0]
 ·rw [if_neg h,if_neg h]
theorem aGA {a:Rat}:(if a.den=1 then(0:Int) else a.den)≠1∧0≤(if a.den=1 then(0:Int) else a.den)∧dl (if a.den=1 then(0:Int) else a.den).natAbs≤dl a.den∧((if a.den=1 then(0:Int) else a.den)≠0→Int.gcd a.num (if a.den=1 then(0:Int) else a.den)=1):=by
 by_cases h:a.den=1
 ·rw [if_pos h];exact⟨by omega,by omega,by show dl 0≤_;rw [rD];omega,fun h=>absurd rfl h⟩
 ·rw [if_neg h];exact⟨by omega,by omega,by simp,fun _=>a.reduced⟩
theorem aDR {a:Rat} (ha:qs a=true):Ev (fun K=>s7 K (Qr a)) true:=by
 obtain⟨a1,a2⟩:=r5 ha
 obtain⟨q1,q2,q3,q4⟩:=@aGA a
 rw [Qr_Z]
 generalize(if a.den=1 then(0:Int) else a.den)=q at *
 unfold s7
 refine Ev.bind (aEF (by omega)) ?_
 simp only [Bool.not_true,gT]
 refine Ev.bind (aEF (by omega)) ?_
 simp only [Bool.not_true,gT,qE,dF (show¬q<0 by omega),vK,oB,dF q1,yP]
 by_cases h:q=0
 ·simp only [dT h,gL];exact Ev.pure _
 ·simp only [dF h,gT]
  refine Ev.bind (aC6 (by omega) (by omega)) ?_
  rw [q4 h]
  simp only [vK,oB]
  exact Ev.pure _
theorem l4 {a b:Rat} {r:Int} (h:aDW a b=some r):Ct Tryz.prog aAC [.va (eQ a),.va (eQ b)] (.vc (pI .i64 r)):=by
 obtain⟨h1,h2,rfl⟩:=vT h
 obtain⟨K,hK⟩:=(aCh h1 h2).get
 exact zY hK
theorem nB {a:Rat} {r:Bool} (h:aBl a=some r):Ct Tryz.prog aB6 [.va (eQ a)] (.vc (pB r)):=by
 obtain⟨h1,rfl⟩:=aBp h
 obtain⟨K,hK⟩:=(aDR h1).get
 exact aA8 hK
end Go.Proofs.YtcjdedkdoagifaaGreat
