/- Division and the greatest common divisor, as the program computes them. -/
import Derived.Test.YtcjdedkdoagifaaGreatP5
set_option linter.unusedVariables false
namespace Go.Proofs.YtcjdedkdoagifaaGreat
theorem aD6 {b s:Int} (h0:1≤b) (h1:b<1000000000) (hs:s=1000000000/(b+1)):1≤s∧s≤500000000∧500000000≤s*b∧s*(b+1)≤1000000000:=by
 have d:=Int.mul_ediv_add_emod 1000000000 (b+1)
 have m0:=Int.emod_nonneg 1000000000 (show b+1≠0 by omega)
 have m1:=Int.emod_lt_of_pos 1000000000 (show 0<b+1 by omega)
 rw [←hs] at d
 have hs1:1≤s:=by
  rcases Int.lt_or_le 0 s with h|h
  ·exact h
  ·have:(b+1)*s≤0:=Int.mul_nonpos_of_nonneg_of_nonpos (by omega) (by omega)
   omega
 have hs2:2*s≤(b+1)*s:=Int.mul_le_mul_of_nonneg_right (by omega) (by omega)
 have e1:(b+1)*s=s*b+s:=by grind
 have e2:s*(b+1)=s*b+s:=by grind
 have e3:0≤(s-1)*(b-1):=Int.mul_nonneg (by omega) (by omega)
 have e4:(s-1)*(b-1)=s*b-s-b+1:=by grind
 refine⟨hs1,by omega,by omega,by omega⟩
theorem aAY {u:List Int} {n i:Nat} (h:i<n):(u.take n).getD i 0=u.getD i 0:=by
 simp only [List.getD_eq_getElem?_getD,List.getElem?_take];rw [if_pos h]
theorem jB.take {u:List Int} (h:jB u) (n:Nat):jB (u.take n):=fun i=>by
 rcases Nat.lt_or_ge i n with h1|h1
 ·rw [aAY h1];exact h i
 ·rw [qJ (by simp;omega)];omega
theorem aDa {u:List Int} {n:Nat} (h:jB u) (hn:n≤u.length) (hv:vD u<PB n):vD (u.take n)=vD u:=by
 obtain⟨c,hc⟩:=Nat.exists_eq_add_of_le hn
 have e:(u.take n).length=n:=by simp;omega
 unfold vD at *
 rw [e]
 rw [hc] at hv ⊢
 rw [aCO h hv]
 exact xU fun i hi=>by rw [Nat.zero_add];exact aAY hi
theorem aES {a b:List Int} (ha:jB a) (hb:jB b) (tb:Top b) (hb2:2≤b.length) (hab:b.length≤a.length) (hL:a.length≤60000000000):
  ∃q r,q.length≤a.length∧r.length≤a.length∧jB q∧jB r∧vD q=vD a/vD b∧vD r=vD a%vD b∧Ev (fun K=>pN K a b) (q,r):=by
 obtain⟨N,hN⟩:∃N,b.length=N+2:=⟨b.length-2,by omega⟩
 have hbn:b≠[]:=by intro e;subst e;simp at hN
 obtain⟨b1,hb1⟩:∃x,b.getD (N+1) 0=x:=⟨_,rfl⟩
 have hb1d:=hb (N+1)
 rw [hb1] at hb1d
 have hb10:b1≠0:=by
  rcases tb with h|h
  ·exact absurd h hbn
  ·rw [hN,show N+2-1=N+1 by omega,hb1] at h;exact h
 obtain⟨s,hs⟩:∃x,1000000000/(b1+1)=x:=⟨_,rfl⟩
 obtain⟨hs1,hs2,hs3,hs4⟩:=aD6 (b:=b1) (by omega) hb1d.2 hs.symm
 obtain⟨u,hul,huo,huv,huF⟩:=aAv (a:=a) (f:=s) ha (by omega) (by omega) hL
 obtain⟨vb,hvl,hvo,hvv,hvF⟩:=aAv (a:=b) (f:=s) hb (by omega) (by omega) (by omega)
 have hPN:=nZ (N+1)
 have hbv:vD b=W b 0 (N+1)+b1*PB (N+1):=by unfold vD;rw [hN,dS,Nat.zero_add,hb1]
 have hbw:=uP (hb.dr 0 (N+1))
 have hVlt:vD vb<PB (N+2):=by
  rw [hvv]
  have h1:vD b<(b1+1)*PB (N+1):=by rw [Int.add_mul,Int.one_mul];omega
  have h2:s*vD b<s*((b1+1)*PB (N+1)):=Int.mul_lt_mul_of_pos_left h1 (by omega)
  have h3:s*(b1+1)*PB (N+1)≤1000000000*PB (N+1):=Int.mul_le_mul_of_nonneg_right hs4 (by omega)
  rw [Int.mul_assoc] at h3
  show _<PB (N+1)*1000000000
  omega
 have hv1:=hvo.take (N+2)
 have hvd:=aDa (n:=N+2) hvo (by omega) hVlt
 have hvtl:(vb.take (N+2)).length=N+2:=by simp;omega
 obtain⟨v,hv⟩:∃x,vb.take (N+2)=x:=⟨_,rfl⟩
 rw [hv] at hv1 hvd hvtl
 have hVs:vD v=s*vD b:=by rw [hvd,hvv]
 have hV1:500000000≤v.getD (N+1) 0:=by
  have e:vD v=W v 0 (N+1)+v.getD (N+1) 0*PB (N+1):=by unfold vD;rw [hvtl,dS,Nat.zero_add]
  have h1:=(uP (hv1.dr 0 (N+1))).2
  have h2:s*(b1*PB (N+1))≤s*vD b:=Int.mul_le_mul_of_nonneg_left (by omega) (by omega)
  rw [←Int.mul_assoc] at h2
  have h3:s*b1*PB (N+1)<(v.getD (N+1) 0+1)*PB (N+1):=by rw [Int.add_mul _ 1,Int.one_mul];omega
  have:=p5 hPN h3
  omega
 have hbpos:=tb.pos hb hbn
 rw [hN,show N+2-1=N+1 by omega] at hbpos
 have start:aAV a.length (N+2) v (s*vD a) (List.replicate (a.length-(N+2)+1) 0) u (a.length-(N+2)+1):=by
  refine⟨by simp,hul,huo,fun t _=>?_,?_,?_⟩
  ·simp only [List.getD_eq_getElem?_getD,List.getElem?_replicate];split<;>simp
  ·rw [huv,hVs]
   have h1:=ha.lt
   have e:a.length=(N+1)+(a.length-(N+2)+1):=by omega
   rw [e,vP] at h1
   have hp:=nZ (a.length-(N+2)+1)
   have h2:PB (N+1)*PB (a.length-(N+2)+1)≤vD b*PB (a.length-(N+2)+1):=Int.mul_le_mul_of_nonneg_right hbpos (by omega)
   have h3:s*vD a<s*(vD b*PB (a.length-(N+2)+1)):=Int.mul_lt_mul_of_pos_left (by omega) (by omega)
   rw [←Int.mul_assoc] at h3
   exact h3
  ·rw [huv,Nat.sub_self,aGg];simp
 obtain⟨q,u',hP,hF⟩:=z5 (b:=b) (m:=a.length) hN (by omega) (by omega) hv1 hvtl hV1 _ _ _ (Nat.le_refl _) start
 have hql:=hP.ql
 have hu'l:=hP.ul
 have hqo:jB q:=fun i=>hP.qok i (Nat.zero_le _)
 have hlt:=hP.lt
 have hval:=hP.val
 rw [hVs] at hlt hval
 simp only [PB,Int.mul_one,Int.one_mul,Nat.sub_zero] at hlt hval
 have hqv:vD q=W q 0 (a.length-(N+2)+1):=by unfold vD;rw [hql]
 rw [←hqv] at hval
 have hu'n:=hP.uok.nonneg
 have hu'lt:vD u'<PB (N+2):=by rw [←hVs,hvd] at hlt;omega
 have hto:=hP.uok.take (N+2)
 have htv:=aDa (n:=N+2) hP.uok (by omega) hu'lt
 have htl:(u'.take (N+2)).length=N+2:=by simp;omega
 obtain⟨r,r0,hrl,hro,hrv,hr0,hrF⟩:=aAW (a:=u'.take (N+2)) (b:=s) hto (by omega) (by omega) (by omega)
 have hrho:vD u'=s*(vD a-vD b*vD q):=by
  rw [Int.mul_sub,←Int.mul_assoc];omega
 have hr:vD r=vD a-vD b*vD q:=by
  rw [hrv,htv,hrho,Int.mul_ediv_cancel_left _ (by omega)]
 have hrn:0≤vD r:=hro.nonneg
 have hrb:vD r<vD b:=by
  rw [hrho,←hr] at hlt
  rw [Int.mul_comm,Int.mul_comm s] at hlt
  exact p5 (by omega) hlt
 have hbp:0<vD b:=by omega
 refine⟨q,r,by omega,by omega,hqo,hro,?_,?_,?_⟩
 ·have e:vD a=vD r+vD b*vD q:=by omega
  rw [e,Int.add_mul_ediv_left _ _ (by omega),Int.ediv_eq_zero_of_lt hrn hrb,Int.zero_add]
 ·have e:vD a=vD r+vD b*vD q:=by omega
  rw [e,Int.add_mul_emod_self_left,Int.emod_eq_of_lt hrn hrb]
 ·have e1:bQ ((b.length:Int)-1)=some ((N+1:Nat):Int):=uB (m:=0) (by omega) (by omega)
  have e2:=dC (xs:=b) (i:=N+1) (by omega)
  rw [hb1] at e2
  have e3:bQ (b1+1)=some (b1+1):=mM (by omega)
  have e4:r4 1000000000 (b1+1)=some s:=by rw [←hs];exact oM (by omega) (by omega) (by omega)
  have e5:slL vb 0 (b.length:Int)=some v:=by rw [hN,←hv];exact aBA (by omega)
  have e6:bQ ((a.length:Int)-(b.length:Int))=some ((a.length-(N+2):Nat):Int):=uB (m:=0) (by omega) (by omega)
  have e7:bQ (((a.length-(N+2):Nat):Int)+1)=some ((a.length-(N+2)+1:Nat):Int):=uB (m:=0) (by omega) (by omega)
  have e8:s6 ((a.length-(N+2)+1:Nat):Int) (0:Int)=some (List.replicate (a.length-(N+2)+1) 0):=vM (by omega)
  have e9:((a.length-(N+2):Nat):Int)=((a.length-(N+2)+1:Nat):Int)-1:=by omega
  have e10:slL u' 0 (b.length:Int)=some (u'.take (N+2)):=by rw [hN];exact aBA (by omega)
  simp only [pN,e1,e2,e3,e4,oB]
  refine Ev.bind huF (Ev.bind hvF ?_)
  simp only [e5,e6,e7,e8,oB]
  rw [e9]
  refine Ev.bind hF.ev ?_
  simp only [oH,e10,oB]
  exact Ev.bind hrF (Ev.pure _)
theorem aFf {n:Nat} (h:n≤18446744073709551615):IntKind.u64.wrap (n:Int)=(n:Int):=IntWalk.u64_in _ ⟨by omega,by omega⟩
theorem aCN (m n:Nat):dl (m/n)≤dl m:=nH (Nat.div_le_self m n)
theorem aBj (m n:Nat):dl (m%n)≤dl m:=nH (Nat.mod_le m n)
theorem sS {n:Nat} (h:(cJ n).length≤2):n<1000000000000000000:=by
 have:=aAq n
 have h2:=yB (a:=dl n) (b:=2) h
 have:PB 2=1000000000000000000:=by decide
 omega
theorem aAg {m n:Nat} (hn:0<n) (hL:dl m≤60000000000):Ev (fun K=>kN K (cJ m) (cJ n)) (Z (m/n:Nat),Z (m%n:Nat)):=by
 have dm:=cG m;have dn:=cG n
 have vm:=dN m;have vn:=dN n
 have tm:=k6 m;have tn:=k6 n
 have lm:(cJ m).length=dl m:=rfl
 have ln:(cJ n).length=dl n:=rfl
 have key:Ev (fun K=>jU K (cJ m) (cJ n)) (Z (m/n:Nat),Z (m%n:Nat)):=by
  unfold jU
  refine Ev.bind (tD dm dn tm tn (by omega)) ?_
  rw [vm,vn]
  unfold qP
  by_cases hlt:m<n
  ·rw [if_pos (by omega)]
   have h1:=r8 false dm (by omega)
   rw [vm,Int.toNat_natCast,kW] at h1
   refine Ev.congr (g:=fun K=>(eF K false (cJ m)).bind fun v8=>some ((⟨false,([]:List Int)⟩:aP),v8)) ?_ (fun K=>rfl)
   refine Ev.bind h1 ?_
   rw [Nat.div_eq_of_lt hlt,Nat.mod_eq_of_lt hlt]
   have:Z ((0:Nat):Int)=⟨false,[]⟩:=by rw [←kW];rfl
   rw [this]
   exact Ev.pure _
  ·have hc:decide ((if(m:Int)<n then(-1:Int) else if(n:Int)<m then 1 else 0)<0)=false:=by
    rw [if_neg (by omega)]
    split<;>rfl
   simp only [hc,gT]
   have hle:dl n≤dl m:=nH (by omega)
   have hn0:dl n≠0:=by rw [Ne,rH];omega
   by_cases h1:dl n=1
   ·have e1:(((cJ n).length:Int)==1)=true:=qT (by omega)
    obtain⟨a1,a2⟩:=u6 h1
    have e2:=dC (xs:=cJ n) (i:=0) (by omega)
    simp only [Int.natCast_zero] at e2
    rw [a1] at e2
    obtain⟨q,r,g1,g2,g3,g4,g5⟩:=aAW (a:=cJ m) (b:=(n:Int)) dm (by omega) (by omega) (by omega)
    rw [vm] at g3 g4
    have h2:=r8 false g2 (by omega)
    rw [g3,kW] at h2
    simp only [e1,gL,e2,oB]
    refine Ev.bind g5 (Ev.bind h2 ?_)
    have hr:r=((m%n:Nat):Int):=by rw [g4];simp
    have hrlt:m%n<n:=Nat.mod_lt _ hn
    rw [hr,aFf (by omega),oJ false (by omega),oB,kW]
    have:((((m:Int)/n).toNat:Nat):Int)=((m/n:Nat):Int):=by rw [←Int.natCast_ediv,Int.toNat_natCast]
    rw [this]
    exact Ev.pure _
   ·have e1:(((cJ n).length:Int)==1)=false:=qF (by omega)
    obtain⟨q,r,g1,g2,g3,g4,g5,g6,g7⟩:=aES dm dn tn (by omega) (by omega) (by omega)
    rw [vm,vn] at g5 g6
    have h2:=r8 false g3 (by omega)
    have h3:=r8 false g4 (by omega)
    rw [g5,kW] at h2
    rw [g6,kW] at h3
    simp only [e1,gT]
    refine Ev.bind g7 (Ev.bind h2 (Ev.bind h3 ?_))
    have e3:((((m:Int)/n).toNat:Nat):Int)=((m/n:Nat):Int):=by rw [←Int.natCast_ediv,Int.toNat_natCast]
    have e4:((((m:Int)%n).toNat:Nat):Int)=((m%n:Nat):Int):=by rw [←Int.natCast_emod,Int.toNat_natCast]
    rw [e3,e4]
    exact Ev.pure _
 unfold kN
 rw [wA dm,wA dn]
 simp only [oB]
 by_cases h1:(cJ m).length≤2
 ·by_cases h2:(cJ n).length≤2
  ·rw [if_pos h1,if_pos h2]
   simp only [gL,vm,vn]
   have b1:=sS h1
   have hd:=Nat.div_le_self m n
   have hm:=Nat.mod_le m n
   have e1:r4 (m:Int) (n:Int)=some ((m/n:Nat):Int):=by rw [oM (by omega) (by omega) (by omega)];simp
   have e2:r6 (m:Int) (n:Int)=some ((m%n:Nat):Int):=by rw [kL (by omega) (by omega)];simp
   simp only [e1,e2,oB]
   rw [aFf (by omega),aFf (by omega),oJ false (by omega),oJ false (by omega)]
   simp only [oB,kW]
   exact Ev.pure _
  ·rw [if_pos h1,if_neg h2]
   simp only [gL,gT]
   exact key
 ·rw [if_neg h1]
  simp only [gT]
  exact key
theorem aC9 {x y:Int} (hy:y≠0) (hx:dl x.natAbs≤40000000000) (hy2:dl y.natAbs≤40000000000):Ev (fun K=>oW K (Z x) (Z y)) (Z (x/y),Z (x%y)):=by
 have hyl:dl y.natAbs≠0:=by rw [Ne,rH];omega
 have e1:(((cJ y.natAbs).length:Int)==0)=false:=qF (by show(dl y.natAbs:Int)≠0;omega)
 have hm0:=Nat.mod_lt x.natAbs (show 0<y.natAbs by omega)
 have hd:∀n:Nat,((Z (n:Int)).d.length:Int)=dl n:=fun n=>by rw [oE];simp
 have hdm:=aCN x.natAbs y.natAbs
 have hmm:=aBj x.natAbs y.natAbs
 have hnd:=Nat.div_add_mod x.natAbs y.natAbs
 have fin:∀(q r:Nat),((if(x<0)↔(y<0) then(q:Int) else -(q:Int))=x/y)→((r:Int)=x%y)→Ev (fun K=>jH K (Z x) (Z y) (Z r) (Z q)) (Z (x/y),Z (x%y)):=by
  intro q r hq hr
  refine Ev.of fun K=>?_
  unfold jH
  rw [qE,qE,←hq,←hr]
  by_cases hs:(x<0)↔(y<0)
  ·have e:(decide (x<0) != decide (y<0))=false:=by simp [hs]
   rw [e,gT,if_pos hs]
   have:(Z (q:Int))=⟨false,(Z (q:Int)).d⟩:=by unfold Z;simp
   rw [←this]
  ·have e:(decide (x<0) != decide (y<0))=true:=by simp;exact hs
   rw [e,gL,if_neg hs]
   congr 2
   unfold Z
   rw [Int.natAbs_neg]
   congr 1
   have:(cJ (q:Int).natAbs).length=dl q:=by simp [dl]
   rw [this]
   by_cases h0:q=0
   ·subst h0;rw [rD];rfl
   ·have:dl q≠0:=by rw [Ne,rH];exact h0
    rw [dT (by omega),dT (by omega)]
 have eT:∀z:Int,(z.natAbs:Int)=z∨(z.natAbs:Int)=-z:=fun z=>by omega
 unfold oW
 simp only [e1,gT,Z_d,qE]
 refine Ev.bind (aAg (m:=x.natAbs) (n:=y.natAbs) (by omega) (by omega)) ?_
 have c1:(x.natAbs:Int)=(y.natAbs:Int)*((x.natAbs/y.natAbs:Nat):Int)+((x.natAbs%y.natAbs:Nat):Int):=by
  rw [←Int.natCast_mul,←Int.natCast_add,hnd]
 generalize hq:x.natAbs/y.natAbs=q at *
 generalize hr:x.natAbs%y.natAbs=r at *
 have uniq:∀a b:Int,x=y*a+b→0≤b→b<y.natAbs→x/y=a∧x%y=b:=by
  intro a b h1 h2 h3
  have hm:x%y=b:=by
   rw [h1,Int.add_comm,Int.add_mul_emod_self_left]
   by_cases hy0:y<0
   ·have:b%y=b% -y:=by rw [Int.emod_neg]
    rw [this,Int.emod_eq_of_lt h2 (by omega)]
   ·exact Int.emod_eq_of_lt h2 (by omega)
  refine⟨?_,hm⟩
  have h4:=Int.mul_ediv_add_emod x y
  exact Int.eq_of_mul_eq_mul_left hy (by omega)
 by_cases hx0:x<0
 ·have e2:decide (x<0)=true:=dT hx0
  simp only [e2,gL]
  by_cases hr0:r=0
  ·subst hr0
   have e3:decide (0<((Z ((0:Nat):Int)).d.length:Int))=false:=by rw [Z_d,show((0:Nat):Int).natAbs=0 from rfl,s9];rfl
   simp only [e3,gT]
   refine fin q 0 ?_ ?_
   ·by_cases hy0:y<0
    ·rw [if_pos (by simp [hx0,hy0])]
     refine((uniq q 0 ?_ (by omega) (by omega)).1).symm
     rw [show(y.natAbs:Int)=-y by omega,show(x.natAbs:Int)=-x by omega] at c1
     rw [Int.neg_mul] at c1;omega
    ·rw [if_neg (by simp [hx0,hy0])]
     refine((uniq (-q) 0 ?_ (by omega) (by omega)).1).symm
     rw [show(y.natAbs:Int)=y by omega,show(x.natAbs:Int)=-x by omega] at c1
     rw [Int.mul_neg];omega
   ·by_cases hy0:y<0
    ·refine((uniq q 0 ?_ (by omega) (by omega)).2).symm
     rw [show(y.natAbs:Int)=-y by omega,show(x.natAbs:Int)=-x by omega] at c1
     rw [Int.neg_mul] at c1;omega
    ·refine((uniq (-q) 0 ?_ (by omega) (by omega)).2).symm
     rw [show(y.natAbs:Int)=y by omega,show(x.natAbs:Int)=-x by omega] at c1
     rw [Int.mul_neg];omega
  ·have hrl:dl r≠0:=by rw [Ne,rH];exact hr0
   have e3:decide (0<((Z (r:Int)).d.length:Int))=true:=dT (by rw [oE];simp only [Int.natAbs_natCast];omega)
   simp only [e3,gL]
   simp only [Z_d,Int.natAbs_natCast]
   have d1:jB [1]:=jB.nil.cons (by omega) (by omega)
   obtain⟨p,p1,p2,p3,p4⟩:=aBN (cG q) d1 (by show dl q≤_;omega) (by simp)
   rw [dN,vD1] at p3
   have o1:=r8 false p1 (by have:(cJ q).length=dl q:=rfl;simp at p2;omega)
   rw [p3,kW] at o1
   obtain⟨s,s1,s2,s3,s4⟩:=yW (cG y.natAbs) (cG r) (nH (by omega)) (by rw [dN,dN];omega) (by show dl _≤_;omega)
   rw [dN,dN] at s3
   have o2:=r8 false s2 (by rw [s1];show dl _≤_;omega)
   rw [s3,kW] at o2
   refine Ev.bind p4 (Ev.bind o1 (Ev.bind s4 (Ev.bind o2 ?_)))
   refine fin _ _ ?_ ?_
   ·by_cases hy0:y<0
    ·rw [if_pos (by simp [hx0,hy0])]
     refine((uniq (q+1) (y.natAbs-r) ?_ (by omega) (by omega)).1).symm▸(by omega)
     rw [show(y.natAbs:Int)=-y by omega,show(x.natAbs:Int)=-x by omega] at c1
     rw [Int.neg_mul] at c1;rw [Int.mul_add];omega
    ·rw [if_neg (by simp [hx0,hy0])]
     refine((uniq (-(q+1)) (y.natAbs-r) ?_ (by omega) (by omega)).1).symm▸(by omega)
     rw [show(y.natAbs:Int)=y by omega,show(x.natAbs:Int)=-x by omega] at c1
     rw [Int.mul_neg,Int.mul_add];omega
   ·by_cases hy0:y<0
    ·refine((uniq (q+1) (y.natAbs-r) ?_ (by omega) (by omega)).2).symm▸(by omega)
     rw [show(y.natAbs:Int)=-y by omega,show(x.natAbs:Int)=-x by omega] at c1
     rw [Int.neg_mul] at c1;rw [Int.mul_add];omega
    ·refine((uniq (-(q+1)) (y.natAbs-r) ?_ (by omega) (by omega)).2).symm▸(by omega)
     rw [show(y.natAbs:Int)=y by omega,show(x.natAbs:Int)=-x by omega] at c1
     rw [Int.mul_neg,Int.mul_add];omega
 ·have e2:decide (x<0)=false:=dF hx0
  simp only [e2,gT]
  refine fin q r ?_ ?_
  ·by_cases hy0:y<0
   ·rw [if_neg (by simp [hx0,hy0])]
    refine((uniq (-q) r ?_ (by omega) (by omega)).1).symm
    rw [show(y.natAbs:Int)=-y by omega,show(x.natAbs:Int)=x by omega] at c1
    rw [Int.neg_mul] at c1;rw [Int.mul_neg];omega
   ·rw [if_pos (by simp [hx0,hy0])]
    refine((uniq q r ?_ (by omega) (by omega)).1).symm
    rw [show(y.natAbs:Int)=y by omega,show(x.natAbs:Int)=x by omega] at c1
    omega
  ·by_cases hy0:y<0
   ·refine((uniq (-q) r ?_ (by omega) (by omega)).2).symm
    rw [show(y.natAbs:Int)=-y by omega,show(x.natAbs:Int)=x by omega] at c1
    rw [Int.neg_mul] at c1;rw [Int.mul_neg];omega
   ·refine((uniq q r ?_ (by omega) (by omega)).2).symm
    rw [show(y.natAbs:Int)=y by omega,show(x.natAbs:Int)=x by omega] at c1
    omega
theorem aFb (K:Nat):∀(n m k:Nat),n<k→iH K k (m:Int) (n:Int)=some ((Nat.gcd m n:Nat):Int):=by
 intro n
 induction n using Nat.strongRecOn with
 |_ n ih=>
  intro m k hk
  obtain⟨k',rfl,_⟩:=eC hk
  by_cases h:n=0
  ·subst h
   simp [iH]
  ·have e1:decide (0<(n:Int))=true:=dT (by omega)
   have e2:r6 (m:Int) (n:Int)=some ((m%n:Nat):Int):=by rw [kL (by omega) (by omega)];simp
   simp only [iH,e1,gL,e2,oB]
   have hlt:=Nat.mod_lt m (show 0<n by omega)
   rw [ih (m%n) hlt n k' (by omega)]
   congr 2
   rw [Nat.gcd_comm m n,Nat.gcd_rec n m,Nat.gcd_comm]
theorem aFg:∀(n m:Nat),dl m≤60000000000→dl n≤60000000000→∃r,qK (fun K k=>gK K k (Z (m:Int)) (Z (n:Int))) r∧(r=.ret (Z (Nat.gcd m n:Nat))∨r=.go (Z (Nat.gcd m n:Nat))):=by
 intro n
 induction n using Nat.strongRecOn with
 |_ n ih=>
  intro m hm hn
  by_cases h:n=0
  ·subst h
   refine⟨.go (Z m),qK.of 1 fun K k hk=>?_,.inr (by simp)⟩
   obtain⟨k',rfl,_⟩:=eC (n:=0) hk
   have e:decide (0<((Z ((0:Nat):Int)).d.length:Int))=false:=by rw [oE,show((0:Nat):Int).natAbs=0 from rfl,rD];rfl
   simp only [gK,e,gT]
  ·have hl:dl n≠0:=by rw [Ne,rH];exact h
   have e1:decide (0<((cJ n).length:Int))=true:=dT (by show(0:Int)<dl n;omega)
   have hlt:=Nat.mod_lt m (show 0<n by omega)
   obtain⟨r,h1,h2⟩:=ih (m%n) hlt n hn (Nat.le_trans (aBj _ _) hm)
   have hg:Nat.gcd n (m%n)=Nat.gcd m n:=by rw [Nat.gcd_comm m n,Nat.gcd_rec n m,Nat.gcd_comm]
   rw [hg] at h2
   have hdiv:=aAg (m:=m) (n:=n) (by omega) hm
   have zd:∀t:Nat,(Z (t:Int)).d=cJ t:=fun t=>by rw [Z_d];simp
   by_cases hs:dl m≤2∧dl n≤2
   ·refine⟨.ret (Z (Nat.gcd m n:Nat)),qK.step ?_,.inl rfl⟩
    have b1:=sS (n:=m) hs.1
    have b2:=sS (n:=n) hs.2
    have hgl:Nat.gcd m n≤n:=Nat.gcd_le_right m (by omega)
    simp only [gK,e1,gL,zd,wA (cG m),wA (cG n),dN,oB]
    rw [if_pos (show(cJ m).length≤2 from hs.1),if_pos (show(cJ n).length≤2 from hs.2)]
    simp only [gL]
    refine qK.bind (x:=((Nat.gcd m n:Nat):Int)) (f:=fun K=>iH K K (m:Int) (n:Int)) ⟨n+1,fun K hK=>aFb K n m K (by omega)⟩ ?_
    simp only [pD,aFf (show Nat.gcd m n≤18446744073709551615 by omega),oJ false (show Nat.gcd m n≤18446744073709551615 by omega),oB,kW]
    exact qK.of 0 fun _ _ _=>rfl
   ·refine⟨r,qK.step ?_,h2⟩
    simp only [gK,e1,gL,zd,wA (cG m),wA (cG n),dN,oB]
    by_cases hs1:(cJ m).length≤2
    ·have hs2:¬(cJ n).length≤2:=fun e=>hs ⟨hs1,e⟩
     rw [if_pos hs1,if_neg hs2]
     simp only [gL,gT]
     exact qK.bind hdiv h1
    ·rw [if_neg hs1]
     simp only [gT]
     exact qK.bind hdiv h1
theorem aC6 {x y:Int} (hx:dl x.natAbs≤60000000000) (hy:dl y.natAbs≤60000000000):Ev (fun K=>oV K (Z x) (Z y)) (Z (Int.gcd x y:Nat)):=by
 unfold oV
 have h1:=r8 false (cG x.natAbs) (by show dl _≤_;omega)
 have h2:=r8 false (cG y.natAbs) (by show dl _≤_;omega)
 rw [dN,kW,Int.toNat_natCast] at h1 h2
 simp only [Z_d]
 refine Ev.bind h1 (Ev.bind h2 ?_)
 obtain⟨r,h3,h4⟩:=aFg y.natAbs x.natAbs hx hy
 refine Ev.bind h3.ev ?_
 rcases h4 with rfl|rfl
 ·exact Ev.pure _
 ·exact Ev.pure _
end Go.Proofs.YtcjdedkdoagifaaGreat
