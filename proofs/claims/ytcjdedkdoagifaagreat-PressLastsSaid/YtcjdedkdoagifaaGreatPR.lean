/- What the packages of rational numbers compute, the program's and the reference's. -/
import Derived.Test.YtcjdedkdoagifaaGreatRZ
set_option linter.unusedVariables false
namespace Go.Proofs.YtcjdedkdoagifaaGreat
open Rat
theorem Z0:Z 0=(⟨false,[]⟩:aP):=by rw [show(0:Int)=((0:Nat):Int) from rfl,←kW];rfl
theorem aDn {x y:Int} (h:Z x=Z y):x=y:=by
 have h1:decide (x<0)=decide (y<0):=congrArg aP.neg h
 have h2:cJ x.natAbs=cJ y.natAbs:=congrArg aP.d h
 have h3:(x.natAbs:Int)=y.natAbs:=by rw [←dN,←dN,h2]
 have h4:(x<0)↔(y<0):=by simpa using h1
 omega
theorem yP {x:Int}:(((Z x).d.length:Int)==0)=decide (x=0):=by
 rw [oE]
 by_cases h:x=0
 ·rw [dT h];subst h;rw [show Int.natAbs 0=0 from rfl,rD];rfl
 ·have:dl x.natAbs≠0:=by rw [Ne,rH];omega
  rw [dF h,qF (by omega)]
theorem dl1:dl 1=1:=by
 unfold dl;rw [aC3 (by decide) (by decide)];rfl
theorem vK (x:Int):oN (Z x)=some (decide (x=1)):=by
 unfold oN
 rw [qE]
 by_cases h:x<0
 ·rw [dT h,dF (p:=x=1) (by omega)];simp
 ·rw [dF h]
  simp only [Bool.not_false,gL,Z_d]
  by_cases h1:(cJ x.natAbs).length=1
  ·obtain⟨a1,a2⟩:=u6 h1
   have e:=dC (xs:=cJ x.natAbs) (i:=0) (by omega)
   rw [a1] at e
   simp only [Int.natCast_zero] at e
   rw [qT (by omega),gL,e,oB]
   by_cases h2:x=1
   ·rw [dT h2,qT (by omega)]
   ·rw [dF h2,qF (by omega)]
  ·rw [qF (by omega),gT,dF]
   intro e;subst e;exact h1 dl1
theorem aCj (x:Int):lF (Z x)=some (decide (x=1)):=by
 unfold lF
 rw [qE]
 by_cases h:x<0
 ·rw [dT h,dF (p:=x=1) (by omega)];rfl
 ·rw [dF h]
  simp only [gT,Z_d]
  by_cases h1:(cJ x.natAbs).length=1
  ·obtain⟨a1,a2⟩:=u6 h1
   have e:=dC (xs:=cJ x.natAbs) (i:=0) (by omega)
   rw [a1] at e
   simp only [Int.natCast_zero] at e
   rw [nF (by omega),gT,e,oB]
   by_cases h2:x=1
   ·rw [dT h2,qT (by omega)]
   ·rw [dF h2,qF (by omega)]
  ·rw [nT (by omega),gL,dF]
   intro e;subst e;exact h1 dl1
theorem aGk {p q:Int} (hq:0<q) (hg:Int.gcd p q=1):(p/. q).num=p∧(p/. q).den=q.natAbs:=by
 rw [Rat.num_divInt,Rat.den_divInt,Int.gcd_comm,hg,if_neg (by omega),Int.sign_eq_one_of_pos hq]
 simp
theorem aAp {p q:Int} (hq:0<q) (hg:Int.gcd p q=1):Qr (p/. q)=⟨Z p,if q=1 then⟨false,[]⟩ else Z q⟩:=by
 obtain⟨h1,h2⟩:=aGk hq hg
 rw [yH,h1,h2]
 by_cases h:q=1
 ·rw [if_pos h,if_pos (by omega)]
 ·rw [if_neg h,if_neg (by omega),show(q.natAbs:Int)=q by omega]
theorem uS {p q:Int} (hq:q≠0) (hg:Int.gcd p q=1):kV (Z p) (Z q)=some (Qr (p/. q)):=by
 unfold kV
 rw [qE]
 by_cases h:q<0
 ·rw [dT h]
  simp only [gL,aDg,oB,vK]
  rw [←Rat.neg_divInt_neg,aAp (by omega) (by simpa using hg)]
  by_cases h1:-q=1
  ·rw [dT h1,if_pos h1];rfl
  ·rw [dF h1,if_neg h1];rfl
 ·rw [dF h]
  simp only [gT,vK,oB]
  rw [aAp (by omega) hg]
  by_cases h1:q=1
  ·rw [dT h1,if_pos h1];rfl
  ·rw [dF h1,if_neg h1];rfl
theorem aAG {p q:Int} (hq:q≠0):∃a b:Int,∃g:Nat,Int.gcd p q=g∧0<g∧p=a*g∧q=b*g∧Int.gcd a b=1∧b≠0∧p/(g:Int)=a∧q/(g:Int)=b:=by
 have hg:0<Int.gcd p q:=Int.gcd_pos_of_ne_zero_right p hq
 obtain⟨a,ha⟩:=Int.gcd_dvd_left (a:=p) (b:=q)
 obtain⟨b,hb⟩:=Int.gcd_dvd_right (a:=p) (b:=q)
 have hgz:((Int.gcd p q:Nat):Int)≠0:=by omega
 have q1:p/((Int.gcd p q:Nat):Int)=a:=by
  have:((Int.gcd p q:Nat):Int)*a/((Int.gcd p q:Nat):Int)=a:=Int.mul_ediv_cancel_left _ hgz
  rwa [←ha] at this
 have q2:q/((Int.gcd p q:Nat):Int)=b:=by
  have:((Int.gcd p q:Nat):Int)*b/((Int.gcd p q:Nat):Int)=b:=Int.mul_ediv_cancel_left _ hgz
  rwa [←hb] at this
 refine⟨a,b,Int.gcd p q,rfl,hg,by rw [Int.mul_comm];exact ha,by rw [Int.mul_comm];exact hb,?_,?_,q1,q2⟩
 ·have h:=Int.gcd_mul_left (Int.gcd p q) a b
  rw [←ha,←hb] at h
  simp only [Int.natAbs_natCast] at h
  have:Int.gcd p q*1=Int.gcd p q*Int.gcd a b:=by omega
  exact(Nat.eq_of_mul_eq_mul_left hg this).symm
 ·intro e;rw [e] at hb;simp at hb;exact hq hb
theorem uG:Qr 0=⟨⟨false,[]⟩,⟨false,[]⟩⟩:=Qr0
theorem aET {p q:Int} (hq:q≠0):dl (Int.gcd p q)≤dl q.natAbs:=nH (Nat.le_of_dvd (by omega) (Nat.gcd_dvd_right _ _))
theorem xN {p q:Int} (hq:q≠0) (hp1:dl p.natAbs≤20000000000) (hq1:dl q.natAbs≤20000000000):Ev (fun K=>gV K (Z p) (Z q)) (Qr (p/. q)):=by
 unfold gV
 simp only [yP,dF hq,gT]
 by_cases hp:p=0
 ·subst hp
  simp only [Rat.zero_divInt,uG]
  exact Ev.pure _
 ·simp only [dF hp,gT]
  obtain⟨a,b,g,h1,h2,h3,h4,h5,h6,h7,h8⟩:=aAG (p:=p) hq
  have hgl:=aET (p:=p) hq
  rw [h1] at hgl
  refine Ev.bind (aC6 (by omega) (by omega)) ?_
  rw [h1]
  simp only [vK,oB]
  have he:p/. q=a/. b:=by
   rw [h3,h4]
   exact Rat.divInt_mul_right (by omega)
  by_cases hg:g=1
  ·have e:(!decide ((g:Int)=1))=false:=by rw [dT (by omega)];rfl
   simp only [e,gT]
   rw [uS hq (by rw [h1];exact hg)]
   exact Ev.pure _
  ·have e:(!decide ((g:Int)=1))=true:=by rw [dF (by omega)];rfl
   simp only [e,gL]
   refine Ev.bind (aC9 (by omega) (by omega) (by simp;omega)) (Ev.bind (aC9 (by omega) (by omega) (by simp;omega)) ?_)
   simp only [h7,h8]
   rw [uS h6 h5,he]
   exact Ev.pure _
theorem aDY (p:Int):Ev (fun K=>gV K (Z p) (Z 0)) (Qr 0):=by
 unfold gV
 simp only [yP,uG]
 exact Ev.pure _
theorem yT {p q:Int} (hq:q≠0) (hp1:dl p.natAbs≤20000000000) (hq1:dl q.natAbs≤20000000000):Ev (fun K=>f8 K (Z p) (Z q)) (Qr (p/. q)):=by
 unfold f8
 simp only [yP,dF hq,gT]
 by_cases hp:p=0
 ·subst hp
  simp only [Rat.zero_divInt,uG]
  exact Ev.pure _
 ·simp only [dF hp,gT]
  obtain⟨a,b,g,h1,h2,h3,h4,h5,h6,h7,h8⟩:=aAG (p:=p) hq
  have hgl:=aET (p:=p) hq
  rw [h1] at hgl
  have hal:dl a.natAbs≤dl p.natAbs:=nH (by
   rw [h3,Int.natAbs_mul,Int.natAbs_natCast]
   exact Nat.le_mul_of_pos_right _ h2)
  have hbl:dl b.natAbs≤dl q.natAbs:=nH (by
   rw [h4,Int.natAbs_mul,Int.natAbs_natCast]
   exact Nat.le_mul_of_pos_right _ h2)
  refine Ev.bind (aER (by omega) (by omega)) ?_
  rw [h1]
  have he:p/. q=a/. b:=by
   rw [h3,h4]
   exact Rat.divInt_mul_right (by omega)
  refine Ev.bind (z3 (by omega) (by omega) (by simp;omega)) (Ev.bind (z3 (by omega) (by omega) (by simp;omega)) ?_)
  simp only [h7,h8,qE]
  rw [he]
  by_cases hb:b<0
  ·simp only [dT hb,gL]
   refine Ev.bind (aCq a (by omega)) (Ev.bind (aCq b (by omega)) ?_)
   simp only [aCj,oB]
   rw [←Rat.neg_divInt_neg,aAp (by omega) (by simpa using h5)]
   by_cases h9:-b=1
   ·simp only [dT h9,if_pos h9,gL];exact Ev.pure _
   ·simp only [dF h9,if_neg h9,gT];exact Ev.pure _
  ·simp only [dF hb,gT,aCj,oB]
   rw [aAp (by omega) h5]
   by_cases h9:b=1
   ·simp only [dT h9,if_pos h9,gL];exact Ev.pure _
   ·simp only [dF h9,if_neg h9,gT];exact Ev.pure _
theorem aCL (p:Int):Ev (fun K=>f8 K (Z p) (Z 0)) (Qr 0):=by
 unfold f8
 simp only [yP,uG]
 exact Ev.pure _
theorem Qp (a:Rat):(Qr a).p=Z a.num:=by rw [yH]
theorem Qq (a:Rat):(Qr a).q=if a.den=1 then⟨false,[]⟩ else Z a.den:=by rw [yH]
theorem aBm (a:Rat):(((Qr a).q.d.length:Int)==0)=decide (a.den=1):=by
 rw [Qq]
 by_cases h:a.den=1
 ·rw [if_pos h,dT h];rfl
 ·rw [if_neg h,dF h,yP,dF]
  have:=a.den_nz
  omega
theorem aF5 {a b:Rat} (h:Qr a=Qr b):a=b:=by
 have h1:Z a.num=Z b.num:=by rw [←Qp,←Qp,h]
 have h2:=congrArg cB.q h
 rw [Qq,Qq] at h2
 have h3:=aDn h1
 have h4:a.den=b.den:=by
  by_cases ha:a.den=1
  ·by_cases hb:b.den=1
   ·omega
   ·rw [if_pos ha,if_neg hb,←Z0] at h2
    have:=aDn h2
    have:=b.den_nz
    omega
  ·by_cases hb:b.den=1
   ·rw [if_neg ha,if_pos hb,←Z0] at h2
    have:=aDn h2
    have:=a.den_nz
    omega
   ·rw [if_neg ha,if_neg hb] at h2
    have:=aDn h2
    omega
 exact Rat.ext h3 h4
theorem xO (a:Rat):eK (Qr a)=some (Z a.den):=by
 unfold eK wD
 rw [aBm]
 by_cases h:a.den=1
 ·rw [dT h,gL,aAz (by omega),oB,oB,h];rfl
 ·rw [dF h,gT,Qq,if_neg h]
theorem tX (a:Rat):Ev (fun K=>fW K (Qr a)) (Z a.den):=by
 unfold fW
 rw [aBm]
 by_cases h:a.den=1
 ·simp only [dT h,gL]
  rw [h]
  exact Ev.bind (uD (by omega)) (Ev.pure _)
 ·simp only [dF h,gT]
  rw [Qq,if_neg h]
  exact Ev.pure _
theorem r5 {a:Rat} (h:qs a=true):dl a.num.natAbs≤40000000∧dl a.den≤40000000:=by
 unfold qs at h
 simp only [Bool.and_eq_true,Nat.ble_eq] at h
 have h1:=aEP a.num.natAbs
 have h2:=aEP a.den
 omega
theorem aBf (a b:Rat):a+b=(a.num*b.den+b.num*a.den)/. (a.den*b.den):=by
 have ha:=a.den_nz
 have hb:=b.den_nz
 conv=>lhs;rw [←Rat.num_divInt_den a,←Rat.num_divInt_den b]
 exact Rat.divInt_add_divInt _ _ (by omega) (by omega)
theorem zR (a b:Rat):a*b=(a.num*b.num)/. (a.den*b.den):=by
 conv=>lhs;rw [←Rat.num_divInt_den a,←Rat.num_divInt_den b]
 exact Rat.divInt_mul_divInt _ _
theorem aEd (n:Int):Qr (n/. 1)=⟨Z n,⟨false,[]⟩⟩:=by
 rw [aAp (by omega) (by simp)];rfl
theorem wC {a b:Rat} (ha:qs a=true) (hb:qs b=true):dl (a.num*b.den).natAbs≤80000000∧dl (b.num*a.den).natAbs≤80000000∧dl (a.num*b.den+b.num*a.den).natAbs≤80000001∧dl ((a.den:Int)*b.den).natAbs≤80000000∧dl (a.num*b.num).natAbs≤80000000∧((a.den:Int)*b.den)≠0:=by
 obtain⟨a1,a2⟩:=r5 ha
 obtain⟨b1,b2⟩:=r5 hb
 have m1:=zZ a.num.natAbs b.den
 have m2:=zZ b.num.natAbs a.den
 have m3:=zZ a.den b.den
 have m4:=zZ a.num.natAbs b.num.natAbs
 have e1:(a.num*b.den).natAbs=a.num.natAbs*b.den:=by rw [Int.natAbs_mul,Int.natAbs_natCast]
 have e2:(b.num*a.den).natAbs=b.num.natAbs*a.den:=by rw [Int.natAbs_mul,Int.natAbs_natCast]
 have e3:((a.den:Int)*b.den).natAbs=a.den*b.den:=by rw [Int.natAbs_mul,Int.natAbs_natCast,Int.natAbs_natCast]
 have e4:(a.num*b.num).natAbs=a.num.natAbs*b.num.natAbs:=Int.natAbs_mul _ _
 have hs:dl (a.num*b.den+b.num*a.den).natAbs≤80000001:=by
  have h1:dl ((a.num*b.den).natAbs+(b.num*a.den).natAbs)≤80000000+1:=aGs (by rw [e1];omega) (by rw [e2];omega)
  exact Nat.le_trans (nH (Int.natAbs_add_le _ _)) h1
 refine⟨by rw [e1];omega,by rw [e2];omega,hs,by rw [e3];omega,by rw [e4];omega,?_⟩
 have h1:=a.den_nz
 have h2:=b.den_nz
 exact Int.mul_ne_zero (by omega) (by omega)
theorem aDz {a b:Rat} (ha:qs a=true) (hb:qs b=true):Ev (fun K=>tW K (Qr a) (Qr b)) (Qr (a+b)):=by
 obtain⟨a1,a2⟩:=r5 ha
 obtain⟨b1,b2⟩:=r5 hb
 obtain⟨c1,c2,c3,c4,c5,c6⟩:=wC ha hb
 have key:Ev (fun K=>(eK (Qr a)).bind fun v12=>(eK (Qr b)).bind fun v14=>(cK K (Z a.num) v14).bind fun v18=>(cK K (Z b.num) v12).bind fun v20=>(kX K v18 v20).bind fun v22=>(cK K v12 v14).bind fun v24=>(gV K v22 v24).bind fun v26=>some v26) (Qr (a+b)):=by
  simp only [xO,oB]
  refine Ev.bind (tA (by simp;omega)) (Ev.bind (tA (by simp;omega)) (Ev.bind (aDr (by omega) (by omega)) (Ev.bind (tA (by simp;omega)) (Ev.bind (xN c6 (by omega) (by omega)) ?_))))
  rw [←aBf]
  exact Ev.pure _
 have key2:Ev (fun K=>bif decide (a.num=0) then some (Qr b) else bif decide (b.num=0) then some (Qr a) else(eK (Qr a)).bind fun v12=>(eK (Qr b)).bind fun v14=>(cK K (Z a.num) v14).bind fun v18=>(cK K (Z b.num) v12).bind fun v20=>(kX K v18 v20).bind fun v22=>(cK K v12 v14).bind fun v24=>(gV K v22 v24).bind fun v26=>some v26) (Qr (a+b)):=by
  by_cases h1:a.num=0
  ·simp only [dT h1,gL]
   rw [Rat.num_eq_zero.1 h1,Rat.zero_add]
   exact Ev.pure _
  ·simp only [dF h1,gT]
   by_cases h2:b.num=0
   ·simp only [dT h2,gL]
    rw [Rat.num_eq_zero.1 h2,Rat.add_zero]
    exact Ev.pure _
   ·simp only [dF h2,gT]
    exact key
 unfold tW
 simp only [aBm,Qp,yP]
 by_cases h1:a.den=1
 ·simp only [dT h1,gL]
  by_cases h2:b.den=1
  ·simp only [dT h2,gL]
   refine Ev.bind (aDr (by omega) (by omega)) ?_
   have:a+b=(a.num+b.num)/. 1:=by
    rw [aBf,h1,h2];simp
   rw [this,aEd]
   exact Ev.pure _
  ·simp only [dF h2,gT]
   exact key2
 ·simp only [dF h1,gT]
  exact key2
theorem aA9 {n:Int} {d e:Nat} (h:(n/. (d:Int)).den=e) (hd:d≠0):e∣d:=by
 rw [Rat.den_divInt,if_neg (by omega)] at h
 rw [←h]
 simp only [Int.natAbs_natCast]
 exact Nat.div_dvd_of_dvd (by rw [Int.gcd_comm];exact Nat.gcd_dvd_right _ _)
theorem aBB {n:Int} {d:Nat} (hd:d≠0):(n/. (d:Int)).num.natAbs∣n.natAbs:=by
 rw [Rat.num_divInt,Int.sign_eq_one_of_pos (by omega),Int.one_mul]
 rw [Int.gcd_comm]
 obtain⟨c,hc⟩:=Int.gcd_dvd_left (a:=n) (b:=(d:Int))
 have hg:0<Int.gcd n d:=Int.gcd_pos_of_ne_zero_right n (by omega)
 generalize Int.gcd n d=g at *
 have e:n/(g:Int)=c:=by rw [hc];exact Int.mul_ediv_cancel_left _ (by omega)
 rw [e,hc,Int.natAbs_mul]
 exact Nat.dvd_mul_left _ _
theorem aFG {a b:Rat}:Int.gcd ((a.num/. b.den).num*(b.num/. a.den).num) (((a.num/. b.den).den:Int)*(b.num/. a.den).den)=1:=by
 have ha:=a.den_nz
 have hb:=b.den_nz
 have h1:=(a.num/. b.den).reduced
 have h2:=(b.num/. a.den).reduced
 have ra:=a.reduced
 have rb:=b.reduced
 have n1:(a.num/. (b.den:Int)).num.natAbs∣a.num.natAbs:=aBB hb
 have n2:(b.num/. (a.den:Int)).num.natAbs∣b.num.natAbs:=aBB ha
 have d1:(a.num/. (b.den:Int)).den∣b.den:=aA9 rfl hb
 have d2:(b.num/. (a.den:Int)).den∣a.den:=aA9 rfl ha
 have x1:Nat.Coprime (a.num/. (b.den:Int)).num.natAbs (b.num/. (a.den:Int)).den:=Nat.Coprime.coprime_dvd_left n1 (Nat.Coprime.coprime_dvd_right d2 ra)
 have x2:Nat.Coprime (b.num/. (a.den:Int)).num.natAbs (a.num/. (b.den:Int)).den:=Nat.Coprime.coprime_dvd_left n2 (Nat.Coprime.coprime_dvd_right d1 rb)
 show Nat.gcd _ _=1
 rw [Int.natAbs_mul,Int.natAbs_mul,Int.natAbs_natCast,Int.natAbs_natCast]
 exact Nat.Coprime.mul_left (Nat.Coprime.mul_right h1 x1) (Nat.Coprime.mul_right x2 h2)
theorem aDp {n:Int} {d:Nat} (hd:d≠0):dl (n/. (d:Int)).num.natAbs≤dl n.natAbs∧dl (n/. (d:Int)).den≤dl d:=by
 constructor
 ·by_cases h:n=0
  ·subst h;rw [Rat.zero_divInt];exact Nat.le_refl _
  ·exact nH (Nat.le_of_dvd (by omega) (aBB hd))
 ·exact nH (Nat.le_of_dvd (by omega) (aA9 rfl hd))
theorem aDN {a b:Rat} (ha:qs a=true) (hb:qs b=true):Ev (fun K=>(eK (Qr b)).bind fun v12=>(gV K (Z a.num) v12).bind fun v14=>(eK (Qr a)).bind fun v16=>(gV K (Z b.num) v16).bind fun v18=>(cK K v14.p v18.p).bind fun v22=>(eK v14).bind fun v24=>(eK v18).bind fun v26=>(cK K v24 v26).bind fun v28=>(kV v22 v28).bind fun v30=>some v30) (Qr (a*b)):=by
 obtain⟨a1,a2⟩:=r5 ha
 obtain⟨b1,b2⟩:=r5 hb
 have ha0:=a.den_nz
 have hb0:=b.den_nz
 have p1:=aDp (n:=a.num) hb0
 have p2:=aDp (n:=b.num) ha0
 simp only [xO,oB]
 refine Ev.bind (xN (by omega) (by omega) (by simp;omega)) (Ev.bind (xN (by omega) (by omega) (by simp;omega)) ?_)
 simp only [Qp]
 refine Ev.bind (tA (by omega)) ?_
 simp only [xO,oB]
 refine Ev.bind (tA (by rw [Int.natAbs_natCast,Int.natAbs_natCast];omega)) ?_
 have e1:=(a.num/. (b.den:Int)).den_nz
 have e2:=(b.num/. (a.den:Int)).den_nz
 rw [uS (Int.mul_ne_zero (by omega) (by omega)) aFG,oB,←zR]
 have:a.num/. (b.den:Int)*(b.num/. (a.den:Int))=a*b:=by
  rw [Rat.divInt_mul_divInt,zR,Int.mul_comm (b.den:Int)]
 rw [this]
 exact Ev.pure _
theorem aDd {a b:Rat} (ha:qs a=true) (hb:qs b=true):Ev (fun K=>tZ K (Qr a) (Qr b)) (Qr (a*b)):=by
 obtain⟨a1,a2⟩:=r5 ha
 obtain⟨b1,b2⟩:=r5 hb
 have key:=aDN ha hb
 unfold tZ
 simp only [aBm,Qp,yP]
 by_cases h1:a.num=0
 ·simp only [dT h1,gL]
  rw [Rat.num_eq_zero.1 h1,Rat.zero_mul,uG]
  exact Ev.pure _
 ·simp only [dF h1,gT]
  by_cases h2:b.num=0
  ·simp only [dT h2,gL]
   rw [Rat.num_eq_zero.1 h2,Rat.mul_zero,uG]
   exact Ev.pure _
  ·simp only [dF h2,gT]
   by_cases h3:a.den=1
   ·simp only [dT h3,gL]
    by_cases h4:b.den=1
    ·simp only [dT h4,gL]
     refine Ev.bind (tA (by omega)) ?_
     have:a*b=(a.num*b.num)/. 1:=by rw [zR,h3,h4];rfl
     rw [this,aEd]
     exact Ev.pure _
    ·simp only [dF h4,gT]
     exact key
   ·simp only [dF h3,gT]
    exact key
theorem aC0 (a:Rat):tR (Qr a)=some (Qr (-a)):=by
 unfold tR
 rw [Qp,aDg,oB]
 congr 1
 rw [yH (-a),Rat.neg_num,Rat.neg_den,Qq]
theorem aF7 {a:Rat} (h:qs a=true):qs (-a)=true:=by
 unfold qs at *;rw [Rat.neg_num,Rat.neg_den,Int.natAbs_neg];exact h
theorem aFj {a b:Rat} (ha:qs a=true) (hb:qs b=true):Ev (fun K=>wB K (Qr a) (Qr b)) (Qr (a-b)):=by
 unfold wB
 simp only [aC0,oB]
 refine Ev.bind (aDz ha (aF7 hb)) ?_
 rw [Rat.sub_eq_add_neg]
 exact Ev.pure _
theorem aBS (a:Rat):rR (Qr a)=some a.num.sign:=by
 unfold rR
 rw [Qp,aEB];rfl
theorem aBt {b:Rat} (h:b.num≠0):b⁻¹=(b.den:Int)/. b.num:=Rat.inv_def b
theorem aF6 {b:Rat} (hb:qs b=true):qs (b⁻¹)=true:=by
 by_cases h:b.num=0
 ·rw [Rat.num_eq_zero.1 h,Rat.inv_zero];decide
 ·have hc:Nat.gcd b.num.natAbs b.den=1:=b.reduced
  rw [aBt h]
  unfold qs at *
  have e1:((b.den:Int)/. b.num).num.natAbs=b.den:=by
   rw [Rat.num_divInt]
   have:Int.gcd b.num b.den=1:=hc
   rw [this]
   simp only [Int.natCast_one,Int.ediv_one,Int.natAbs_mul,Int.natAbs_natCast,Int.natAbs_sign_of_ne_zero h,Nat.one_mul]
  have e2:((b.den:Int)/. b.num).den=b.num.natAbs:=by
   rw [Rat.den_divInt,if_neg h]
   have:Int.gcd b.num b.den=1:=hc
   rw [this,Nat.div_one]
  rw [e1,e2,Bool.and_comm]
  exact hb
theorem aFx {a b:Rat} (ha:qs a=true) (hb:qs b=true):Ev (fun K=>wF K (Qr a) (Qr b)) (Qr (a/b)):=by
 unfold wF
 simp only [Qp,yP]
 by_cases h:b.num=0
 ·simp only [dT h,gL]
  rw [Rat.num_eq_zero.1 h,Rat.div_def,Rat.inv_zero,Rat.mul_zero,uG]
  exact Ev.pure _
 ·simp only [dF h,gT,xO,oB]
  have hc:Int.gcd (b.den:Int) b.num=1:=by rw [Int.gcd_comm];exact b.reduced
  rw [uS h hc,←aBt h]
  simp only [oB]
  refine Ev.bind (aDd ha (aF6 hb)) ?_
  rw [Rat.div_def]
  exact Ev.pure _
theorem aCi (x y:List Int) (hl:x.length=y.length) (hL:x.length≤9000000000000):∀(t i:Nat),i+t=x.length→∀K k,t<k→fK K x y k (i:Int)=some (if x.drop i=y.drop i then .go () else .ret false)
 |0,i,hi,K,k,hk=>by
  obtain⟨k',rfl,_⟩:=eC hk
  have:i=x.length:=by omega
  subst this
  simp only [fK,dF (show¬(x.length:Int)<(x.length:Int) by omega),gT]
  rw [if_pos]
  rw [List.drop_of_length_le (Nat.le_refl _),List.drop_of_length_le (by omega)]
 |t+1,i,hi,K,k,hk=>by
  obtain⟨k',rfl,_⟩:=eC hk
  have e1:decide ((i:Int)<(x.length:Int))=true:=dT (by omega)
  have e2:=dC (xs:=x) (i:=i) (by omega)
  have e3:=dC (xs:=y) (i:=i) (by omega)
  have e5:bQ ((i:Int)+1)=some ((i+1:Nat):Int):=uB (m:=0) (by omega) (by omega)
  have dx:x.drop i=x.getD i 0::x.drop (i+1):=by
   rw [List.drop_eq_getElem_cons (by omega)];simp [List.getD_eq_getElem?_getD,show i<x.length by omega]
  have dy:y.drop i=y.getD i 0::y.drop (i+1):=by
   rw [List.drop_eq_getElem_cons (by omega)];simp [List.getD_eq_getElem?_getD,show i<y.length by omega]
  by_cases h:x.getD i 0=y.getD i 0
  ·have ih:=aCi x y hl hL t (i+1) (by omega) K k' (by omega)
   simp only [fK,e1,e2,e3,e5,nF h,gL,gT,oB,ih]
   by_cases hd:x.drop (i+1)=y.drop (i+1)
   ·rw [if_pos hd,if_pos (by rw [dx,dy,h,hd])]
   ·rw [if_neg hd,if_neg (by rw [dx,dy];intro e;exact hd (List.cons.inj e).2)]
  ·simp only [fK,e1,e2,e3,nT h,gL,oB]
   rw [if_neg (by rw [dx,dy];intro e;exact h (List.cons.inj e).1)]
theorem aDH (x y:List Int) (hL:x.length≤9000000000000):Ev (fun K=>l7 K x y) (decide (x=y)):=by
 refine⟨x.length+1,fun K hK=>?_⟩
 unfold l7
 by_cases h2:x.length=y.length
 ·have h:=aCi x y h2 hL x.length 0 (by omega) K K (by omega)
  simp only [Int.natCast_zero,List.drop_zero] at h
  simp only [nF (show(x.length:Int)=(y.length:Int) by omega),gT,h,oB]
  by_cases h3:x=y
  ·rw [if_pos h3,dT h3];rfl
  ·rw [if_neg h3,dF h3]
 ·simp only [nT (show(x.length:Int)≠(y.length:Int) by omega),gL]
  rw [dF (by intro e;subst e;exact h2 rfl)]
theorem aAO (x y:aP) (hL:x.d.length≤9000000000000):Ev (fun K=>pY K x y) (decide (x=y)):=by
 unfold pY
 by_cases h1:x.neg=y.neg
 ·have e1:(x.neg==y.neg)=true:=beq_iff_eq.2 h1
  simp only [e1,gL]
  refine Ev.bind (aDH _ _ hL) ?_
  have:decide (x.d=y.d)=decide (x=y):=by
   by_cases h3:x.d=y.d
   ·rw [dT h3,dT (by cases x;cases y;simp_all)]
   ·rw [dF h3,dF (by intro e;subst e;exact h3 rfl)]
  rw [this]
  exact Ev.pure _
 ·have e1:(x.neg==y.neg)=false:=beq_false_of_ne h1
  simp only [e1,gT]
  rw [dF (by intro e;subst e;exact h1 rfl)]
  exact Ev.pure _
theorem aGX {a:Rat} (h:qs a=true):(Qr a).p.d.length≤9000000000000∧(Qr a).q.d.length≤9000000000000:=by
 obtain⟨a1,a2⟩:=r5 h
 rw [Qp,Qq,oE]
 refine⟨by omega,?_⟩
 by_cases h:a.den=1
 ·rw [if_pos h];simp
 ·rw [if_neg h,oE];simp;omega
theorem aEx (a b:Rat):(bif decide ((Qr a).p=(Qr b).p) then decide ((Qr a).q=(Qr b).q) else false)=decide (a=b):=by
 by_cases h:a=b
 ·subst h;simp
 ·rw [dF h]
  by_cases h1:(Qr a).p=(Qr b).p
  ·rw [dT h1,gL,dF]
   intro h2
   exact h (aF5 (by cases hx:Qr a;cases hy:Qr b;rw [hx,hy] at h1 h2;simp_all))
  ·rw [dF h1];rfl
theorem aE6 {a b:Rat} (ha:qs a=true) (hb:qs b=true):Ev (fun K=>uU K (Qr a) (Qr b)) (decide (a=b)):=by
 obtain⟨l1,l2⟩:=aGX ha
 unfold uU
 refine Ev.bind (aAO _ _ l1) ?_
 rw [←aEx]
 by_cases h:(Qr a).p=(Qr b).p
 ·simp only [dT h,gL]
  exact Ev.bind (aAO _ _ l2) (Ev.pure _)
 ·simp only [dF h,gT]
  exact Ev.pure _
theorem aEm {a b:Rat} (ha:qs a=true) (hb:qs b=true):Ev (fun K=>pL K (Qr a) (Qr b)) (Qr (a+b)):=by
 obtain⟨a1,a2⟩:=r5 ha
 obtain⟨b1,b2⟩:=r5 hb
 obtain⟨c1,c2,c3,c4,c5,c6⟩:=wC ha hb
 unfold pL
 refine Ev.bind (tX b) ?_
 simp only [Qp]
 refine Ev.bind (tY (by simp;omega)) (Ev.bind (tX a) (Ev.bind (tY (by simp;omega)) (Ev.bind (aBM (by omega) (by omega)) (Ev.bind (tX a) (Ev.bind (tX b) (Ev.bind (tY (by simp;omega)) (Ev.bind (yT c6 (by omega) (by omega)) ?_)))))))
 rw [←aBf]
 exact Ev.pure _
theorem aEi {a b:Rat} (ha:qs a=true) (hb:qs b=true):Ev (fun K=>pA K (Qr a) (Qr b)) (Qr (a*b)):=by
 obtain⟨a1,a2⟩:=r5 ha
 obtain⟨b1,b2⟩:=r5 hb
 obtain⟨c1,c2,c3,c4,c5,c6⟩:=wC ha hb
 unfold pA
 simp only [Qp]
 refine Ev.bind (tY (by omega)) (Ev.bind (tX a) (Ev.bind (tX b) (Ev.bind (tY (by simp;omega)) (Ev.bind (yT c6 (by omega) (by omega)) ?_))))
 rw [←zR]
 exact Ev.pure _
theorem aD9 {a:Rat} (ha:qs a=true):Ev (fun K=>oS K (Qr a)) a.num.sign:=by
 obtain⟨a1,a2⟩:=r5 ha
 unfold oS
 rw [Qp]
 exact Ev.bind (aDT (by omega)) (Ev.pure _)
theorem aF4 {p q:Int} (hp:-9223372036854775808≤p∧p≤9223372036854775807) (hq:-9223372036854775808≤q∧q≤9223372036854775807):Ev (fun K=>xY K p q) (Qr ((p:Rat)/q)):=by
 have hs:∀n:Int,-9223372036854775808≤n∧n≤9223372036854775807→dl n.natAbs≤3:=fun n h=>wR (by
  have:PB 3=1000000000000000000000000000:=by decide
  omega)
 have h1:=hs p hp
 have h2:=hs q hq
 unfold xY
 simp only [aAz hp,aAz hq,oB]
 rw [←Rat.divInt_eq_div]
 by_cases h:q=0
 ·subst h
  rw [Rat.divInt_zero]
  exact Ev.bind (aDY p) (Ev.pure _)
 ·exact Ev.bind (xN h (by omega) (by omega)) (Ev.pure _)
theorem aFc {p q:Int} (hp:-9223372036854775808≤p∧p≤9223372036854775807) (hq:-9223372036854775808≤q∧q≤9223372036854775807):Ev (fun K=>p7 K p q) (Qr ((p:Rat)/q)):=by
 have hs:∀n:Int,-9223372036854775808≤n∧n≤9223372036854775807→dl n.natAbs≤3:=fun n h=>wR (by
  have:PB 3=1000000000000000000000000000:=by decide
  omega)
 have h1:=hs p hp
 have h2:=hs q hq
 unfold p7
 refine Ev.bind (uD hp) (Ev.bind (uD hq) ?_)
 rw [←Rat.divInt_eq_div]
 by_cases h:q=0
 ·subst h
  rw [Rat.divInt_zero]
  exact Ev.bind (aCL p) (Ev.pure _)
 ·exact Ev.bind (yT h (by omega) (by omega)) (Ev.pure _)
theorem Ev.get {α:Type} {f:Nat→Option α} {r:α} (h:Ev f r):∃K,f K=some r:=let ⟨N,h⟩:=h;⟨N,h N (Nat.le_refl _)⟩
theorem vT {α:Type} {a b:Rat} {r s:α} (h:(bif qs a&&qs b then some s else none)=some r):qs a=true∧qs b=true∧s=r:=by
 cases ha:qs a<;>cases hb:qs b<;>rw [ha,hb] at h<;>simp at h
 exact⟨rfl,rfl,h⟩
theorem aBp {α:Type} {a:Rat} {r s:α} (h:(bif qs a then some s else none)=some r):qs a=true∧s=r:=by
 cases ha:qs a<;>rw [ha] at h<;>simp at h
 exact⟨rfl,h⟩
theorem aFK {p q:Int} {r:Rat} (h:wP p q=some r):(-9223372036854775808≤p∧p≤9223372036854775807)∧(-9223372036854775808≤q∧q≤9223372036854775807)∧r=(p:Rat)/q:=by
 unfold wP at h
 obtain⟨p',h1,k1⟩:=aO h
 obtain⟨q',h2,k2⟩:=aO k1
 obtain⟨e1,e2⟩:=sY h1
 obtain⟨e3,e4⟩:=sY h2
 rw [e1,e3] at k2
 exact⟨e2,e4,(Option.some.inj k2).symm⟩
theorem rV {a b r:Rat} (h:zD a b=some r):Ct Tryz.prog aD3 [.va (eQ a),.va (eQ b)] (.va (eQ r)):=by
 obtain⟨h1,h2,rfl⟩:=vT h
 obtain⟨K,hK⟩:=(aDz h1 h2).get
 exact zS hK
theorem zV {a b r:Rat} (h:aF0 a b=some r):Ct Tryz.prog aDZ [.va (eQ a),.va (eQ b)] (.va (eQ r)):=by
 obtain⟨h1,h2,rfl⟩:=vT h
 obtain⟨K,hK⟩:=(aFj h1 h2).get
 exact aCB hK
theorem oT {a b r:Rat} (h:yA a b=some r):Ct Tryz.prog aD1 [.va (eQ a),.va (eQ b)] (.va (eQ r)):=by
 obtain⟨h1,h2,rfl⟩:=vT h
 obtain⟨K,hK⟩:=(aDd h1 h2).get
 exact aAi hK
theorem wW {a b r:Rat} (h:aFE a b=some r):Ct Tryz.prog aD8 [.va (eQ a),.va (eQ b)] (.va (eQ r)):=by
 obtain⟨h1,h2,rfl⟩:=vT h
 obtain⟨K,hK⟩:=(aFx h1 h2).get
 exact aCH hK
theorem nK {a r:Rat} (h:aAd a=some r):Ct Tryz.prog aDD [.va (eQ a)] (.va (eQ r)):=by
 obtain⟨h1,rfl⟩:=aBp h
 exact zQ (aC0 a)
theorem gF {a:Rat} {r:Int} (h:s5 a=some r):Ct Tryz.prog aCP [.va (eQ a)] (.vc (pI .i64 r)):=by
 obtain⟨h1,rfl⟩:=aBp h
 exact vL (aBS a)
theorem gU {a b:Rat} {r:Bool} (h:u9 a b=some r):Ct Tryz.prog aCx [.va (eQ a),.va (eQ b)] (.vc (pB r)):=by
 obtain⟨h1,h2,rfl⟩:=vT h
 obtain⟨K,hK⟩:=(aE6 h1 h2).get
 exact aBO hK
theorem t7 {p q:Int} {r:Rat} (h:wP p q=some r):Ct Tryz.prog aEj [.vc (pI .i64 p),.vc (pI .i64 q)] (.va (eQ r)):=by
 obtain⟨h1,h2,rfl⟩:=aFK h
 obtain⟨K,hK⟩:=(aF4 h1 h2).get
 exact aDI hK
theorem sQ {a b r:Rat} (h:zD a b=some r):Ct Tryz.prog xR [.va (eQ a),.va (eQ b)] (.va (eQ r)):=by
 obtain⟨h1,h2,rfl⟩:=vT h
 obtain⟨K,hK⟩:=(aEm h1 h2).get
 exact wV hK
theorem wZ {a b r:Rat} (h:yA a b=some r):Ct Tryz.prog xG [.va (eQ a),.va (eQ b)] (.va (eQ r)):=by
 obtain⟨h1,h2,rfl⟩:=vT h
 obtain⟨K,hK⟩:=(aEi h1 h2).get
 exact w6 hK
theorem nV {a:Rat} {r:Int} (h:s5 a=some r):Ct Tryz.prog w4 [.va (eQ a)] (.vc (pI .i64 r)):=by
 obtain⟨h1,rfl⟩:=aBp h
 obtain⟨K,hK⟩:=(aD9 h1).get
 exact wJ hK
theorem bV {p q:Int} {r:Rat} (h:wP p q=some r):Ct Tryz.prog yF [.vc (pI .i64 p),.vc (pI .i64 q)] (.va (eQ r)):=by
 obtain⟨h1,h2,rfl⟩:=aFK h
 obtain⟨K,hK⟩:=(aFc h1 h2).get
 exact xM hK
end Go.Proofs.YtcjdedkdoagifaaGreat
