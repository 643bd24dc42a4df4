/- Division and the greatest common divisor, as the reference computes them. -/
import Derived.Test.YtcjdedkdoagifaaGreatP7
set_option linter.unusedVariables false
namespace Go.Proofs.YtcjdedkdoagifaaGreat
theorem vY {u:List Int} (hu:jB u) (h:u.length≤2):fI u=some (vD u):=by
 have h0:=hu 0
 have h1:=hu 1
 have d0:=qU u 0
 have d1:=qU u 1
 simp only [Int.natCast_zero,Int.natCast_one] at d0 d1
 have f1:bQ (u.getD 1 0*1000000000)=some (u.getD 1 0*1000000000):=mM (by omega)
 have f2:bQ (u.getD 1 0*1000000000+u.getD 0 0)=some (u.getD 1 0*1000000000+u.getD 0 0):=mM (by omega)
 simp only [fI,d0,d1,f1,f2,oB]
 have:vD u=W u 0 2:=(uO h).symm
 rw [this,W2,Nat.zero_add]
 congr 1;omega
theorem aAB (n:Nat):(Z (n:Int)).d=cJ n:=by rw [Z_d];simp
theorem aAk (n k:Nat) (hk:k≤999999999) (hL:dl n≤40000000000):Ev (fun K=>gH K (cJ n) (k:Int)) (cJ (n*k)):=by
 unfold gH
 have h1:=gS false (cG n) (by show dl _≤_;omega)
 rw [dN,Int.toNat_natCast,kW] at h1
 refine Ev.bind h1 (Ev.bind (uD (n:=(k:Int)) (by omega)) ?_)
 have hk2:dl k≤1:=wR (by
  have:PB 1=1000000000:=by decide
  omega)
 refine Ev.bind (tY (x:=(n:Int)) (y:=(k:Int)) (by simp;omega)) ?_
 have:(Z ((n:Int)*k)).d=cJ (n*k):=by rw [←Int.natCast_mul,aAB]
 rw [this]
 exact Ev.pure _
theorem aGl (a b:Int):decide (qP a b≤0)=decide (a≤b):=by
 unfold qP
 by_cases h:a<b
 ·rw [if_pos h,dT (by omega),dT (by omega)]
 ·rw [if_neg h]
  by_cases h2:b<a
  ·rw [if_pos h2,dF (by omega),dF (by omega)]
  ·rw [if_neg h2,dT (by omega),dT (by omega)]
theorem aGx (a b:Int):decide (qP a b<0)=decide (a<b):=by
 unfold qP
 by_cases h:a<b
 ·rw [if_pos h,dT (by omega),dT h]
 ·rw [if_neg h,dF h]
  by_cases h2:b<a
  ·rw [if_pos h2];rfl
  ·rw [if_neg h2];rfl
theorem xX {n R:Nat} (hn:0<n) (hL:dl n≤40000000000) (hR:dl R≤90000000000):∀(t lo hi:Nat),hi-lo≤t→lo≤hi→hi≤999999999→lo*n≤R→R<(hi+1)*n→qK (fun K k=>cD K (cJ n) (Z (R:Int)) k (lo:Int) (hi:Int)) ((R/n:Nat):Int):=by
 intro t
 induction t with
 |zero=>
  intro lo hi ht hle hhi h1 h2
  have:lo=hi:=by omega
  subst this
  refine qK.of 1 fun K k hk=>?_
  obtain⟨k',rfl,_⟩:=eC (n:=0) hk
  have:R/n=lo:=Nat.div_eq_of_lt_le h1 h2
  simp only [cD,dF (show¬(lo:Int)<(lo:Int) by omega),gT,this]
 |succ t ih=>
  intro lo hi ht hle hhi h1 h2
  by_cases hlt:lo<hi
  ·refine qK.step ?_
   have e1:bQ ((lo:Int)+(hi:Int))=some ((lo+hi:Nat):Int):=uB (m:=0) (by omega) (by omega)
   have e2:bQ (((lo+hi:Nat):Int)+1)=some ((lo+hi+1:Nat):Int):=uB (m:=0) (by omega) (by omega)
   have e3:r4 ((lo+hi+1:Nat):Int) 2=some (((lo+hi+1)/2:Nat):Int):=by rw [oM (by omega) (by omega) (by omega)];congr 1
   obtain⟨mid,hm⟩:∃m,(lo+hi+1)/2=m:=⟨_,rfl⟩
   rw [hm] at e3
   have hm1:lo<mid:=by omega
   have hm2:mid≤hi:=by omega
   simp only [cD,dT (show(lo:Int)<(hi:Int) by omega),gL,e1,e2,e3,oB]
   refine qK.bind (aAk n mid (by omega) hL) ?_
   have hdm:dl (n*mid)≤9000000000000:=by
    have:=zZ n mid
    have:dl mid≤1:=wR (by
     have:PB 1=1000000000:=by decide
     omega)
    omega
   rw [aAB]
   refine qK.bind (qI (cG _) (cG _) (k6 _) (k6 _) hdm) ?_
   rw [dN,dN,aGl]
   by_cases hc:n*mid≤R
   ·have e4:decide (((n*mid:Nat):Int)≤(R:Int))=true:=dT (by omega)
    simp only [e4,gL]
    exact ih mid hi (by omega) hm2 hhi (by rw [Nat.mul_comm];exact hc) h2
   ·have e4:decide (((n*mid:Nat):Int)≤(R:Int))=false:=dF (by omega)
    have e5:bQ ((mid:Int)-1)=some ((mid-1:Nat):Int):=uB (m:=0) (by omega) (by omega)
    simp only [e4,gT,e5,oB]
    refine ih lo (mid-1) (by omega) (by omega) (by omega) h1 ?_
    rw [show mid-1+1=mid by omega,Nat.mul_comm]
    omega
  ·have:lo=hi:=by omega
   subst this
   refine qK.of 1 fun K k hk=>?_
   obtain⟨k',rfl,_⟩:=eC (n:=0) hk
   have:R/n=lo:=Nat.div_eq_of_lt_le h1 h2
   simp only [cD,dF (show¬(lo:Int)<(lo:Int) by omega),gT,this]
theorem xQ {a:List Int} {n:Nat} (ha:jB a) (hn:0<n) (hL:dl n≤40000000000) (hM:a.length≤40000000000):∀(j:Nat) (q:List Int) (r:Nat),j≤a.length→q.length=a.length→Dr q j (a.length-j)→r<n→W a j (a.length-j)=n*W q j (a.length-j)+r→
  ∃q' r',q'.length=a.length∧jB q'∧r'<n∧vD a=n*vD q'+(r':Nat)∧qK (fun K k=>bY K a (cJ n) k q (cJ r) ((j:Int)-1)) (q',cJ r')
 |0,q,r,hj,hq,hD,hr,hI=>by
  refine⟨q,r,hq,Dr.ok (by rw [hq];simpa using hD),hr,?_,qK.of 1 fun K k hk=>?_⟩
  ·simp only [Nat.sub_zero] at hI
   unfold vD
   rw [hq];exact hI
  ·obtain⟨k',rfl,_⟩:=eC (n:=0) hk
   simp [bY]
 |j+1,q,r,hj,hq,hD,hr,hI=>by
  have ha':=ha j
  have e0:((j+1:Nat):Int)-1=(j:Int):=by omega
  have e1:decide (0≤(j:Int))=true:=dT (by omega)
  have e2:=dC (xs:=a) (i:=j) (by omega)
  have e3:bQ ((j:Int)-1)=some ((j:Int)-1):=mM (by omega)
  have e4:=dC (xs:=q) (i:=j) (by omega)
  have e5:∀v,n8 q (j:Int) v=some (q.set j v):=fun v=>o5 (by omega)
  have hrl:dl r≤dl n:=nH (by omega)
  have hrl':(cJ r).length=dl r:=rfl
  have e6:tB [a.getD j 0] (cJ r)=some (a.getD j 0::cJ r):=aCS (by simp;omega)
  obtain⟨R,hR⟩:∃R:Nat,(R:Int)=a.getD j 0+1000000000*r:=⟨(a.getD j 0+1000000000*r).toNat,by omega⟩
  have hd:jB (a.getD j 0::cJ r):=(cG r).cons ha'.1 ha'.2
  have hv:vD (a.getD j 0::cJ r)=R:=by
   rw [hR]
   have:vD (a.getD j 0::cJ r)=a.getD j 0+1000000000*vD (cJ r):=aCz _ _
   rw [this,dN]
  have h1:=gS false hd (by simp;omega)
  rw [hv,Int.toNat_natCast,kW] at h1
  have hRn:R<1000000000*n:=by
   have:(R:Int)<1000000000*n:=by omega
   omega
  have hRl:dl R≤dl n+1:=wR (by
   have:=aAq n
   simp only [PB]
   omega)
  have hq1:R/n<1000000000:=Nat.div_lt_of_lt_mul (by rw [Nat.mul_comm];exact hRn)
  have hnm:=Nat.div_add_mod R n
  have hml:=Nat.mod_lt R hn
  have hdig:Ev (fun K=>(bif decide (R<n) then cD K (cJ n) (Z (R:Int)) K 0 0 else cD K (cJ n) (Z (R:Int)) K 0 999999999)) ((R/n:Nat):Int):=by
   by_cases hlt:R<n
   ·rw [dT hlt];simp only [gL]
    exact(xX hn hL (by omega) 0 0 0 (by omega) (by omega) (by omega) (by omega) (by omega)).ev
   ·rw [dF hlt];simp only [gT]
    exact(xX hn hL (by omega) 999999999 0 999999999 (by omega) (by omega) (by omega) (by omega) (by omega)).ev
  have h2:=aAk n (R/n) (by omega) hL
  have hle:n*(R/n)≤R:=by omega
  obtain⟨s,s1,s2,s3,s4⟩:=uH (cG R) (cG (n*(R/n))) (nH hle) (by rw [dN,dN];omega) (by show dl R≤_;omega)
  rw [dN,dN] at s3
  have h3:=gS false s2 (by rw [s1];show dl R≤_;omega)
  have hs:(vD s).toNat=R%n:=by omega
  rw [hs,kW] at h3
  have es:a.length-j=(a.length-(j+1))+1:=by omega
  obtain⟨q',r',g1,g2,g3,g4,g5⟩:=xQ ha hn hL hM j (q.set j ((R/n:Nat):Int)) (R%n) (by omega) (by simpa using hq)
   (fun i hi=>by
    by_cases e:i=0
    ·subst e;rw [Nat.add_zero,d8 (by omega)];exact⟨Int.natCast_nonneg _,Int.ofNat_lt.2 hq1⟩
    ·rw [eR (by omega)]
     have:=hD (i-1) (by omega)
     rwa [show j+1+(i-1)=j+i by omega] at this) hml (by
    rw [es,w5,w5,d8 (by omega),sF (.inl (by omega)),hI]
    have:(R:Int)=n*(R/n:Nat)+(R%n:Nat):=by rw [←Int.natCast_mul,←Int.natCast_add,hnm]
    grind)
  refine⟨q',r',g1,g2,g3,g4,qK.step ?_⟩
  rw [e0]
  simp only [bY,e1,e2,e6,gL,oB]
  refine qK.bind h1 ?_
  rw [aAB]
  refine qK.bind (qI (cG _) (cG _) (k6 _) (k6 _) (by show dl R≤_;omega)) ?_
  rw [dN,dN,aGx]
  have fin:qK (fun K k=>fX K (cJ n) q (j:Int) (Z (R:Int)) (bY K a (cJ n) k) ((R/n:Nat):Int)) (q',cJ r'):=by
   simp only [fX]
   refine qK.bind h2 ?_
   rw [aAB]
   refine qK.bind s4 (qK.bind h3 ?_)
   simp only [e3,e4,e5,oB,aAB]
   exact g5
  by_cases hlt:R<n
  ·have c1:decide ((R:Int)<(n:Int))=true:=dT (by omega)
   rw [dT hlt] at hdig
   simp only [gL] at hdig
   simp only [c1,gL,eZ]
   exact qK.bind hdig fin
  ·have c1:decide ((R:Int)<(n:Int))=false:=dF (by omega)
   rw [dF hlt] at hdig
   simp only [gT] at hdig
   simp only [c1,gT,eZ]
   exact qK.bind hdig fin
theorem zO (K:Nat) (b:List Int) (x:aP):∀(k:Nat) (lo hi:Int),eL K b x k lo hi=cD K b x k lo hi
 |0,_,_=>rfl
 |k+1,lo,hi=>by simp only [eL,cD,zO K b x k]
theorem aAr (K:Nat) (a b:List Int):∀(k:Nat) (q r:List Int) (j:Int),cS K a b k q r j=bY K a b k q r j
 |0,_,_,_=>rfl
 |k+1,q,r,j=>by
  have ih:cS K a b k=bY K a b k:=by funext q r j;exact aAr K a b k q r j
  simp only [cS,bY,gW,eZ,jL,fX,zO,ih]
theorem aBz {m n:Nat} (hn:0<n) (hL:dl n≤40000000000) (hM:dl m≤40000000000):∃q,q.length≤dl m+2∧jB q∧vD q=(m/n:Nat)∧Ev (fun K=>gI K (cJ m) (cJ n)) (q,cJ (m%n)):=by
 have dm:=cG m;have dn:=cG n
 have vm:=dN m;have vn:=dN n
 have lm:(cJ m).length=dl m:=rfl
 have ln:(cJ n).length=dl n:=rfl
 obtain⟨q,r,g1,g2,g3,g4,g5⟩:=xQ (a:=cJ m) dm hn hL (by omega) (cJ m).length (List.replicate (cJ m).length 0) 0 (Nat.le_refl _) (by simp) (aBq _ _ _) hn (by simp [W])
 rw [vm] at g4
 have hqn:=g2.nonneg
 have hmn:m=n*(vD q).toNat+r:=by
  have:(m:Int)=((n*(vD q).toNat+r:Nat):Int):=by rw [g4,Int.natCast_add,Int.natCast_mul,Int.toNat_of_nonneg hqn]
  omega
 have hq:(vD q).toNat=m/n:=by
  rw [hmn,Nat.mul_add_div hn,Nat.div_eq_of_lt g3,Nat.add_zero]
 have hr:r=m%n:=by rw [hmn,Nat.mul_add_mod,Nat.mod_eq_of_lt g3]
 subst hr
 rw [s9] at g5
 have e1:s6 ((cJ m).length:Int) (0:Int)=some (List.replicate (cJ m).length 0):=vM (by omega)
 have e2:bQ (((cJ m).length:Int)-1)=some (((cJ m).length:Int)-1):=mM (by omega)
 have core:Ev (fun K=>(s6 ((cJ m).length:Int) (0:Int)).bind fun x23=>(bQ (((cJ m).length:Int)-1)).bind fun v28=>(bY K (cJ m) (cJ n) K x23 [] v28).bind fun(x46,x52)=>hY K x46 x52) (q,cJ (m%n)):=by
  simp only [e1,e2,oB]
  refine Ev.bind g5.ev ?_
  simp only [hY]
  exact Ev.pure _
 by_cases h1:(cJ m).length≤2
 ·by_cases h2:(cJ n).length≤2
  ·have b1:=sS h1
   have b2:=sS h2
   have hd:=Nat.div_le_self m n
   have hm:=Nat.mod_le m n
   refine⟨cJ (m/n),by have:=aCN m n;show dl _≤_;omega,cG _,dN _,?_⟩
   have c1:r4 (m:Int) (n:Int)=some ((m/n:Nat):Int):=by rw [oM (by omega) (by omega) (by omega)];simp
   have c2:r6 (m:Int) (n:Int)=some ((m%n:Nat):Int):=by rw [kL (by omega) (by omega)];simp
   unfold gI
   simp only [dT (show((cJ m).length:Int)≤2 by omega),dT (show((cJ n).length:Int)≤2 by omega),gL,vY dm h1,vY dn h2,vm,vn,c1,c2,oB]
   refine Ev.bind (uD (by omega)) (Ev.bind (uD (by omega)) ?_)
   rw [aAB,aAB]
   exact Ev.pure _
  ·refine⟨q,by omega,g2,by omega,?_⟩
   unfold gI
   simp only [dT (show((cJ m).length:Int)≤2 by omega),dF (show¬((cJ n).length:Int)≤2 by omega),gL,gT]
   exact core
 ·refine⟨q,by omega,g2,by omega,?_⟩
  unfold gI
  simp only [dF (show¬((cJ m).length:Int)≤2 by omega),gT,aAr]
  exact core
theorem yI {x y a b:Int} (hy:y≠0) (h1:x=y*a+b) (h2:0≤b) (h3:b<y.natAbs):x/y=a∧x%y=b:=by
 have hm:x%y=b:=by
  rw [h1,Int.add_comm,Int.add_mul_emod_self_left]
  by_cases hy0:y<0
  ·have:b%y=b% -y:=by rw [Int.emod_neg]
   rw [this,Int.emod_eq_of_lt h2 (by omega)]
  ·exact Int.emod_eq_of_lt h2 (by omega)
 refine⟨?_,hm⟩
 have h4:=Int.mul_ediv_add_emod x y
 exact Int.eq_of_mul_eq_mul_left hy (by omega)
theorem z3 {x y:Int} (hy:y≠0) (hx:dl x.natAbs≤30000000000) (hy2:dl y.natAbs≤30000000000):Ev (fun K=>iG K (Z x) (Z y)) (Z (x/y),Z (x%y)):=by
 have e1:(((cJ y.natAbs).length:Int)==0)=false:=qF (by
  show(dl y.natAbs:Int)≠0
  have:dl y.natAbs≠0:=by rw [Ne,rH];omega
  omega)
 obtain⟨q,q1,q2,q3,q4⟩:=aBz (m:=x.natAbs) (n:=y.natAbs) (by omega) (by omega) (by omega)
 have hdm:=aCN x.natAbs y.natAbs
 have hmm:=aBj x.natAbs y.natAbs
 have hnd:=Nat.div_add_mod x.natAbs y.natAbs
 have hml:=Nat.mod_lt x.natAbs (show 0<y.natAbs by omega)
 have hln:(cJ (x.natAbs%y.natAbs)).length=dl (x.natAbs%y.natAbs):=rfl
 have o1:=gS (decide (x<0) != decide (y<0)) q2 (by omega)
 have o2:=gS false (cG (x.natAbs%y.natAbs)) (by omega)
 rw [q3,Int.toNat_natCast,p6] at o1
 rw [dN,Int.toNat_natCast,kW] at o2
 unfold iG
 simp only [Z_d,qE,e1,gT]
 refine Ev.bind q4 (Ev.bind o1 (Ev.bind o2 ?_))
 have c1:(x.natAbs:Int)=(y.natAbs:Int)*((x.natAbs/y.natAbs:Nat):Int)+((x.natAbs%y.natAbs:Nat):Int):=by
  rw [←Int.natCast_mul,←Int.natCast_add,hnd]
 generalize x.natAbs/y.natAbs=Q at *
 generalize x.natAbs%y.natAbs=R at *
 by_cases hx0:x<0
 ·have e2:decide (x<0)=true:=dT hx0
  by_cases hR:R=0
  ·subst hR
   have e3:decide (0<((Z ((0:Nat):Int)).d.length:Int))=false:=by rw [Z_d,show((0:Nat):Int).natAbs=0 from rfl,s9];rfl
   simp only [e2,e3,gL,gT]
   by_cases hy0:y<0
   ·rw [dT hy0]
    rw [show(y.natAbs:Int)=-y by omega,show(x.natAbs:Int)=-x by omega,Int.neg_mul] at c1
    obtain⟨u1,u2⟩:=yI (x:=x) (y:=y) (a:=Q) (b:=0) hy (by omega) (by omega) (by omega)
    rw [u1,u2]
    exact Ev.pure _
   ·rw [dF hy0]
    rw [show(y.natAbs:Int)=y by omega,show(x.natAbs:Int)=-x by omega] at c1
    obtain⟨u1,u2⟩:=yI (x:=x) (y:=y) (a:=-Q) (b:=0) hy (by rw [Int.mul_neg];omega) (by omega) (by omega)
    rw [u1,u2]
    exact Ev.pure _
  ·have hrl:dl R≠0:=by rw [Ne,rH];exact hR
   have e3:decide (0<((Z (R:Int)).d.length:Int))=true:=dT (by rw [oE];simp only [Int.natAbs_natCast];omega)
   simp only [e2,e3,gL]
   have o3:=gS (true != decide (y<0)) (u:=[1]) (jB.nil.cons (by omega) (by omega)) (by simp)
   rw [vD1,show(1:Int).toNat=1 from rfl,p6] at o3
   obtain⟨s,s1,s2,s3,s4⟩:=uH (cG y.natAbs) (cG R) (nH (by omega)) (by rw [dN,dN];omega) (by show dl _≤_;omega)
   rw [dN,dN] at s3
   have o4:=gS false s2 (by rw [s1];show dl _≤_;omega)
   rw [s3,kW] at o4
   refine Ev.bind o3 ?_
   have hsz:∀b:Bool,dl (if b=true then -(Q:Int) else(Q:Int)).natAbs≤40000000000:=fun b=>by
    cases b<;>simp<;>omega
   have hsz1:∀b:Bool,dl (if b=true then -((1:Nat):Int) else((1:Nat):Int)).natAbs≤40000000000:=fun b=>by
    have:dl 1≤1:=wR (by decide)
    cases b<;>simp<;>omega
   refine Ev.bind (aBM (hsz _) (hsz1 _)) ?_
   rw [aAB]
   refine Ev.bind s4 (Ev.bind o4 ?_)
   by_cases hy0:y<0
   ·rw [dT hy0]
    rw [show(y.natAbs:Int)=-y by omega,show(x.natAbs:Int)=-x by omega,Int.neg_mul] at c1
    obtain⟨u1,u2⟩:=yI (x:=x) (y:=y) (a:=Q+1) (b:=y.natAbs-R) hy (by rw [Int.mul_add];omega) (by omega) (by omega)
    rw [u1,u2]
    have:(((y.natAbs:Int)-R).toNat:Int)=y.natAbs-R:=by omega
    rw [this]
    exact Ev.pure _
   ·rw [dF hy0]
    rw [show(y.natAbs:Int)=y by omega,show(x.natAbs:Int)=-x by omega] at c1
    obtain⟨u1,u2⟩:=yI (x:=x) (y:=y) (a:=-(Q+1)) (b:=y.natAbs-R) hy (by rw [Int.mul_neg,Int.mul_add];omega) (by omega) (by omega)
    rw [u1,u2]
    have:(((y.natAbs:Int)-R).toNat:Int)=y.natAbs-R:=by omega
    rw [this,Int.neg_add]
    exact Ev.pure _
 ·have e2:decide (x<0)=false:=dF hx0
  simp only [e2,gT]
  by_cases hy0:y<0
  ·rw [dT hy0]
   rw [show(y.natAbs:Int)=-y by omega,show(x.natAbs:Int)=x by omega,Int.neg_mul] at c1
   obtain⟨u1,u2⟩:=yI (x:=x) (y:=y) (a:=-Q) (b:=R) hy (by rw [Int.mul_neg];omega) (by omega) (by omega)
   rw [u1,u2]
   exact Ev.pure _
  ·rw [dF hy0]
   rw [show(y.natAbs:Int)=y by omega,show(x.natAbs:Int)=x by omega] at c1
   obtain⟨u1,u2⟩:=yI (x:=x) (y:=y) (a:=Q) (b:=R) hy (by omega) (by omega) (by omega)
   rw [u1,u2]
   exact Ev.pure _
theorem aE9 (K:Nat):∀(n m k:Nat),n<k→fN K k (m:Int) (n:Int)=some ((Nat.gcd m n:Nat):Int):=by
 intro n
 induction n using Nat.strongRecOn with
 |_ n ih=>
  intro m k hk
  obtain⟨k',rfl,_⟩:=eC hk
  by_cases h:n=0
  ·subst h
   simp [fN]
  ·have e1:decide (0<(n:Int))=true:=dT (by omega)
   have e2:r6 (m:Int) (n:Int)=some ((m%n:Nat):Int):=by rw [kL (by omega) (by omega)];simp
   simp only [fN,e1,gL,e2,oB]
   have hlt:=Nat.mod_lt m (show 0<n by omega)
   rw [ih (m%n) hlt n k' (by omega)]
   congr 2
   rw [Nat.gcd_comm m n,Nat.gcd_rec n m,Nat.gcd_comm]
theorem aEz:∀(n m:Nat),dl m≤30000000000→dl n≤30000000000→∃r,qK (fun K k=>eO K k (Z (n:Int)) (Z (m:Int))) r∧(r=.ret (Z (Nat.gcd m n:Nat))∨r=.go (Z (Nat.gcd m n:Nat))):=by
 intro n
 induction n using Nat.strongRecOn with
 |_ n ih=>
  intro m hm hn
  by_cases h:n=0
  ·subst h
   refine⟨.go (Z m),qK.of 1 fun K k hk=>?_,.inr (by simp)⟩
   obtain⟨k',rfl,_⟩:=eC (n:=0) hk
   have e:decide (0<((Z ((0:Nat):Int)).d.length:Int))=false:=by rw [oE,show((0:Nat):Int).natAbs=0 from rfl,rD];rfl
   simp only [eO,e,gT]
  ·have e1:decide (0<((cJ n).length:Int))=true:=dT (by
    show(0:Int)<dl n
    have hl:dl n≠0:=by rw [Ne,rH];exact h
    omega)
   have hlt:=Nat.mod_lt m (show 0<n by omega)
   obtain⟨r,h1,h2⟩:=ih (m%n) hlt n hn (Nat.le_trans (aBj _ _) hm)
   have hg:Nat.gcd n (m%n)=Nat.gcd m n:=by rw [Nat.gcd_comm m n,Nat.gcd_rec n m,Nat.gcd_comm]
   rw [hg] at h2
   have hdiv:=z3 (x:=(m:Int)) (y:=(n:Int)) (by omega) (by simpa using hm) (by simpa using hn)
   rw [←Int.natCast_emod] at hdiv
   by_cases hs:dl m≤2∧dl n≤2
   ·refine⟨.ret (Z (Nat.gcd m n:Nat)),qK.step ?_,.inl rfl⟩
    have b1:=sS (n:=m) hs.1
    have b2:=sS (n:=n) hs.2
    have hgl:Nat.gcd m n≤n:=Nat.gcd_le_right m (by omega)
    have f1:decide (((cJ m).length:Int)≤2)=true:=dT (by have:(cJ m).length=dl m:=rfl;omega)
    have f2:decide (((cJ n).length:Int)≤2)=true:=dT (by have:(cJ n).length=dl n:=rfl;omega)
    simp only [eO,e1,f1,f2,gL,aAB,vY (cG m) hs.1,vY (cG n) hs.2,dN,oB]
    refine qK.bind (x:=((Nat.gcd m n:Nat):Int)) (f:=fun K=>fN K K (m:Int) (n:Int)) ⟨n+1,fun K hK=>aE9 K n m K (by omega)⟩ ?_
    simp only [mH]
    exact qK.bind (uD (by omega)) (qK.of 0 fun _ _ _=>rfl)
   ·refine⟨r,qK.step ?_,h2⟩
    simp only [eO,e1,gL,aAB]
    by_cases hs1:dl m≤2
    ·have f1:decide (((cJ m).length:Int)≤2)=true:=dT (by have:(cJ m).length=dl m:=rfl;omega)
     have f2:decide (((cJ n).length:Int)≤2)=false:=dF (by have:(cJ n).length=dl n:=rfl;omega)
     simp only [f1,f2,gL,gT]
     exact qK.bind hdiv h1
    ·have f1:decide (((cJ m).length:Int)≤2)=false:=dF (by have:(cJ m).length=dl m:=rfl;omega)
     simp only [f1,gT]
     exact qK.bind hdiv h1
theorem aER {x y:Int} (hx:dl x.natAbs≤30000000000) (hy:dl y.natAbs≤30000000000):Ev (fun K=>nE K (Z x) (Z y)) (Z (Int.gcd x y:Nat)):=by
 unfold nE
 have h1:=gS false (cG x.natAbs) (by show dl _≤_;omega)
 have h2:=gS false (cG y.natAbs) (by show dl _≤_;omega)
 rw [dN,kW,Int.toNat_natCast] at h1 h2
 simp only [Z_d]
 refine Ev.bind h1 (Ev.bind h2 ?_)
 obtain⟨r,h3,h4⟩:=aEz y.natAbs x.natAbs hx hy
 refine Ev.bind h3.ev ?_
 rcases h4 with rfl|rfl
 ·exact Ev.pure _
 ·exact Ev.pure _
theorem aBC {x y:Int} (hx:dl x.natAbs≤40000000000) (hy:dl y.natAbs≤40000000000):Ev (fun K=>kH K (Z x) (Z y)) (qP x y):=by
 have dx:=cG x.natAbs;have dy:=cG y.natAbs
 have tx:=k6 x.natAbs;have ty:=k6 y.natAbs
 have lx:(cJ x.natAbs).length=dl x.natAbs:=rfl
 have ly:(cJ y.natAbs).length=dl y.natAbs:=rfl
 unfold kH
 simp only [Z_d,qE]
 by_cases h1:x<0
 ·by_cases h2:y<0
  ·simp only [dT h1,dT h2,bne_self_eq_false,gT,gL]
   have h:=qI dy dx ty tx (by omega)
   rw [dN,dN] at h
   have e:qP (y.natAbs:Int) (x.natAbs:Int)=qP x y:=by
    unfold qP
    by_cases a:x<y
    ·rw [if_pos a,if_pos (by omega)]
    ·rw [if_neg a,if_neg (by omega)]
     by_cases b:y<x
     ·rw [if_pos b,if_pos (by omega)]
     ·rw [if_neg b,if_neg (by omega)]
   rw [e] at h
   exact Ev.bind h (Ev.pure _)
  ·have e:(decide (x<0) != decide (y<0))=true:=by rw [dT h1,dF h2];rfl
   simp only [e,gL]
   simp only [dT h1,gL]
   unfold qP
   rw [if_pos (by omega)]
   exact Ev.pure _
 ·by_cases h2:y<0
  ·have e:(decide (x<0) != decide (y<0))=true:=by rw [dF h1,dT h2];rfl
   simp only [e,gL]
   simp only [dF h1,gT]
   unfold qP
   rw [if_neg (by omega),if_pos (by omega)]
   exact Ev.pure _
  ·simp only [dF h1,dF h2,bne_self_eq_false,gT]
   have h:=qI dx dy tx ty (by omega)
   rw [dN,dN,show(x.natAbs:Int)=x by omega,show(y.natAbs:Int)=y by omega] at h
   exact Ev.bind h (Ev.pure _)
theorem aDT {x:Int} (hx:dl x.natAbs≤40000000000):Ev (fun K=>l6 K (Z x)) x.sign:=by
 unfold l6
 have h:=aBC (x:=x) (y:=0) hx (by rw [show Int.natAbs 0=0 from rfl,rD];omega)
 have e:Z 0=(⟨false,[]⟩:aP):=by rw [show(0:Int)=((0:Nat):Int) from rfl,←kW];rfl
 rw [e] at h
 have e2:qP x 0=x.sign:=by
  unfold qP
  by_cases a:x<0
  ·rw [if_pos a,Int.sign_eq_neg_one_of_neg a]
  ·rw [if_neg a]
   by_cases b:0<x
   ·rw [if_pos b,Int.sign_eq_one_of_pos b]
   ·have:x=0:=by omega
    subst this;rfl
 rw [e2] at h
 exact Ev.bind h (Ev.pure _)
end Go.Proofs.YtcjdedkdoagifaaGreat
