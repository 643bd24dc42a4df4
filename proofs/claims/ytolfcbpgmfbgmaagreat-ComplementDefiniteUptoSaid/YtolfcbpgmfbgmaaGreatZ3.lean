/- Texts of the proof, part 3: P6 P7 P8 R1 RZ PR L1 FR FU FJ PC K16. -/
import Derived.Test.YtolfcbpgmfbgmaaGreatRows
import Derived.WalkKit
import Derived.ProofKit
import Derived.OpenShut
import Derived.JoinedCond
import Derived.RangeFuncSeq
import Derived.Below
import Derived.Test.YtolfcbpgmfbgmaaGreatZ2
set_option linter.unusedSimpArgs false
set_option linter.unusedVariables false
namespace Go.Proofs.YtolfcbpgmfbgmaaGreat
theorem aN7{b s:Int}(j:1≤b)(k:b<1000000000)(hs:s=1000000000/(b+1)):1≤s∧s≤500000000∧500000000≤s*b∧s*(b+1)≤1000000000:=by
 have d:=Int.mul_ediv_add_emod 1000000000 (b+1);have q:=Int.emod_nonneg 1000000000 (show b+1≠0 by omega);have t:=Int.emod_lt_of_pos 1000000000 (show 0<b+1 by omega);rw[←hs]at d;have e:1≤s:=by
  rcases Int.lt_or_le 0 s with h|h
  ·exact h
  ·have:(b+1)*s≤0:=Int.mul_nonpos_of_nonneg_of_nonpos (by omega) (by omega);omega
 have f:2*s≤(b+1)*s:=Int.mul_le_mul_of_nonneg_right (by omega) (by omega);have u:(b+1)*s=s*b+s:=by grind
 have x:s*(b+1)=s*b+s:=by grind
 have y:0≤(s-1)*(b-1):=Int.mul_nonneg (by omega) (by omega);have z:(s-1)*(b-1)=s*b-s-b+1:=by grind
 refine⟨e,by omega,by omega,by omega⟩
theorem aHO{u:List Int}{n i:Nat}(h:i<n):(u.take n).getD i 0=u.getD i 0:=by
 simp only[List.getD_eq_getElem?_getD,List.getElem?_take];rw[if_pos h]
theorem m5.take{u:List Int}(h:m5 u)(n:Nat):m5 (u.take n):=fun i=>by
 rcases Nat.lt_or_ge i n with e|e
 ·rw[aHO e];exact h i
 ·rw[wN (by simp;omega)];omega
theorem aNh{u:List Int}{n:Nat}(h:m5 u)(f:n≤u.length)(hv:vD u<PB n):vD (u.take n)=vD u:=by
 obtain⟨c,hc⟩:=Nat.exists_eq_add_of_le f;have e:(u.take n).length=n:=by simp;omega
 unfold vD at *;rw[e];rw[hc]at hv ⊢;rw[aLu h hv];exact aEe fun i j=>by rw[Nat.zero_add];exact aHO j
theorem aPV{a b:List Int}(ha:m5 a)(hb:m5 b)(tb:Top b)(hb2:2≤b.length)(hab:b.length≤a.length)(hL:a.length≤60000000000):
  ∃q r,q.length≤a.length∧r.length≤a.length∧m5 q∧m5 r∧vD q=vD a/vD b∧vD r=vD a%vD b∧Ev (fun K=>vK K a b) (q,r):=by
 obtain⟨N,z⟩:∃N,b.length=N+2:=⟨b.length-2,by omega⟩;have hbn:b≠[]:=by intro e;subst e;simp at z
 obtain⟨j,k⟩:∃x,b.getD (N+1) 0=x:=⟨_,rfl⟩;have hb1d:=hb (N+1);rw[k]at hb1d;have hb10:j≠0:=by
  rcases tb with h|h
  ·exact absurd h hbn
  ·rw[z,show N+2-1=N+1 by omega,k]at h;exact h
 obtain⟨s,hs⟩:∃x,1000000000/(j+1)=x:=⟨_,rfl⟩;obtain⟨hs1,hs2,hs3,U⟩:=aN7 (b:=j) (by omega) hb1d.2 hs.symm;obtain⟨u,hul,huo,huv,huF⟩:=aGI (a:=a) (f:=s) ha (by omega) (by omega) hL;obtain⟨vb,hvl,hvo,hvv,hvF⟩:=aGI (a:=b) (f:=s) hb (by omega) (by omega) (by omega);have V:=tW (N+1);have hbv:vD b=W b 0 (N+1)+j*PB (N+1):=by unfold vD;rw[z,eH,Nat.zero_add,k]
 have hbw:=aBQ (hb.dr 0 (N+1));have L:vD vb<PB (N+2):=by
  rw[hvv];have O:vD b<(j+1)*PB (N+1):=by rw[Int.add_mul,Int.one_mul];omega
  have X:s*vD b<s*((j+1)*PB (N+1)):=Int.mul_lt_mul_of_pos_left O (by omega);have I:s*(j+1)*PB (N+1)≤1000000000*PB (N+1):=Int.mul_le_mul_of_nonneg_right U (by omega);rw[Int.mul_assoc]at I;show _<PB (N+1)*1000000000;omega
 have F:=hvo.take (N+2);have hvd:=aNh (n:=N+2) hvo (by omega) L;have hvtl:(vb.take (N+2)).length=N+2:=by simp;omega
 obtain⟨v,hv⟩:∃x,vb.take (N+2)=x:=⟨_,rfl⟩;rw[hv]at F hvd hvtl;have G:vD v=s*vD b:=by rw[hvd,hvv]
 have Y:500000000≤v.getD (N+1) 0:=by
  have e:vD v=W v 0 (N+1)+v.getD (N+1) 0*PB (N+1):=by unfold vD;rw[hvtl,eH,Nat.zero_add]
  have O:=(aBQ (F.dr 0 (N+1))).2;have X:s*(j*PB (N+1))≤s*vD b:=Int.mul_le_mul_of_nonneg_left (by omega) (by omega);rw[←Int.mul_assoc]at X;have I:s*j*PB (N+1)<(v.getD (N+1) 0+1)*PB (N+1):=by rw[Int.add_mul _ 1,Int.one_mul];omega
  have:=wB V I;omega
 have hbpos:=tb.pos hb hbn;rw[z,show N+2-1=N+1 by omega]at hbpos;have start:aHM a.length (N+2) v (s*vD a) (List.replicate (a.length-(N+2)+1) 0) u (a.length-(N+2)+1):=by
  refine⟨by simp,hul,huo,fun t _=>?_,?_,?_⟩
  ·simp only[List.getD_eq_getElem?_getD,List.getElem?_replicate];split<;>simp
  ·rw[huv,G];have O:=ha.lt;have e:a.length=(N+1)+(a.length-(N+2)+1):=by omega
   rw[e,aCl]at O;have hp:=tW (a.length-(N+2)+1);have X:PB (N+1)*PB (a.length-(N+2)+1)≤vD b*PB (a.length-(N+2)+1):=Int.mul_le_mul_of_nonneg_right hbpos (by omega);have I:s*vD a<s*(vD b*PB (a.length-(N+2)+1)):=Int.mul_lt_mul_of_pos_left (by omega) (by omega);rw[←Int.mul_assoc]at I;exact I
  ·rw[huv,Nat.sub_self,aT4];simp
 obtain⟨q,J,y,hF⟩:=aGD (b:=b) (m:=a.length) z (by omega) (by omega) F hvtl Y _ _ _ (Nat.le_refl _) start;have hql:=y.ql;have hu'l:=y.ul;have hqo:m5 q:=fun i=>y.qok i (Nat.zero_le _)
 have hlt:=y.lt;have hval:=y.val;rw[G]at hlt hval;simp only[PB,Int.mul_one,Int.one_mul,Nat.sub_zero]at hlt hval;have hqv:vD q=W q 0 (a.length-(N+2)+1):=by unfold vD;rw[hql]
 rw[←hqv]at hval;have hu'n:=y.uok.nonneg;have hu'lt:vD J<PB (N+2):=by rw[←G,hvd]at hlt;omega
 have hto:=y.uok.take (N+2);have htv:=aNh (n:=N+2) y.uok (by omega) hu'lt;have htl:(J.take (N+2)).length=N+2:=by simp;omega
 obtain⟨r,r0,hrl,hro,hrv,hr0,hrF⟩:=aH0 (a:=J.take (N+2)) (b:=s) hto (by omega) (by omega) (by omega);have hrho:vD J=s*(vD a-vD b*vD q):=by
  rw[Int.mul_sub,←Int.mul_assoc];omega
 have hr:vD r=vD a-vD b*vD q:=by
  rw[hrv,htv,hrho,Int.mul_ediv_cancel_left _ (by omega)]
 have hrn:0≤vD r:=hro.nonneg;have hrb:vD r<vD b:=by
  rw[hrho,←hr]at hlt;rw[Int.mul_comm,Int.mul_comm s]at hlt;exact wB (by omega) hlt
 have hbp:0<vD b:=by omega
 refine⟨q,r,by omega,by omega,hqo,hro,?_,?_,?_⟩
 ·have e:vD a=vD r+vD b*vD q:=by omega
  rw[e,Int.add_mul_ediv_left _ _ (by omega),Int.ediv_eq_zero_of_lt hrn hrb,Int.zero_add]
 ·have e:vD a=vD r+vD b*vD q:=by omega
  rw[e,Int.add_mul_emod_self_left,Int.emod_eq_of_lt hrn hrb]
 ·have e1:aV ((b.length:Int)-1)=some ((N+1:Nat):Int):=xH (m:=0) (by omega) (by omega);have e2:=cZ (xs:=b) (i:=N+1) (by omega);rw[k]at e2;have e3:aV (j+1)=some (j+1):=tI (by omega);have e4:chq 1000000000 (j+1)=some s:=by rw[←hs];exact xN (by omega) (by omega) (by omega)
  have e5:slL vb 0 (b.length:Int)=some v:=by rw[z,←hv];exact aID (by omega)
  have e6:aV ((a.length:Int)-(b.length:Int))=some ((a.length-(N+2):Nat):Int):=xH (m:=0) (by omega) (by omega);have e7:aV (((a.length-(N+2):Nat):Int)+1)=some ((a.length-(N+2)+1:Nat):Int):=xH (m:=0) (by omega) (by omega);have e8:mkL ((a.length-(N+2)+1:Nat):Int) (0:Int)=some (List.replicate (a.length-(N+2)+1) 0):=aBz (by omega);have e9:((a.length-(N+2):Nat):Int)=((a.length-(N+2)+1:Nat):Int)-1:=by omega
  have e10:slL J 0 (b.length:Int)=some (J.take (N+2)):=by rw[z];exact aID (by omega)
  simp only[vK,e1,e2,e3,e4,oB];refine Ev.bind huF (Ev.bind hvF ?_);simp only[e5,e6,e7,e8,oB];rw[e9];refine Ev.bind hF.ev ?_;simp only[uJ,e10,oB];exact Ev.bind hrF (Ev.pure _)
theorem aR6{n:Nat}(h:n≤18446744073709551615):IntKind.u64.wrap (n:Int)=(n:Int):=IntWalk.u64_in _ ⟨by omega,by omega⟩
theorem aLh(m n:Nat):dl (m/n)≤dl m:=tB (Nat.div_le_self m n)
theorem aIp(m n:Nat):dl (m%n)≤dl m:=tB (Nat.mod_le m n)
theorem aAg{n:Nat}(h:(cC n).length≤2):n<1000000000000000000:=by
 have:=aGh n;have e:=aD5 (a:=dl n) (b:=2) h;have:PB 2=1000000000000000000:=by decide
 omega
theorem aGa{m n:Nat}(z:0<n)(O:dl m≤60000000000):Ev (fun K=>oO K (cC m) (cC n)) (Z (m/n:Nat),Z (m%n:Nat)):=by
 have dm:=cG m;have dn:=cG n;have vm:=fC m;have vn:=fC n;have tm:=rG m;have tn:=rG n;have lm:(cC m).length=dl m:=rfl;have ln:(cC n).length=dl n:=rfl;have key:Ev (fun K=>n8 K (cC m) (cC n)) (Z (m/n:Nat),Z (m%n:Nat)):=by
  unfold n8;refine Ev.bind (aAK dm dn tm tn (by omega)) ?_;rw[vm,vn];unfold aAf;by_cases hlt:m<n
  ·rw[if_pos (by omega)];have e:=zL false dm (by omega);rw[vm,Int.toNat_natCast,pV]at e;refine Ev.congr (g:=fun K=>(fF K false (cC m)).bind fun F=>some ((⟨false,([]:List Int)⟩:aC),F)) ?_ (fun K=>rfl);refine Ev.bind e ?_;rw[Nat.div_eq_of_lt hlt,Nat.mod_eq_of_lt hlt];have:Z ((0:Nat):Int)=⟨false,[]⟩:=by rw[←pV];rfl
   rw[this];exact Ev.pure _
  ·have hc:decide ((if(m:Int)<n then(-1:Int) else if(n:Int)<m then 1 else 0)<0)=false:=by
    rw[if_neg (by omega)];split<;>rfl
   simp only[hc,bG];have hle:dl n≤dl m:=tB (by omega);have G:dl n≠0:=by rw[Ne,xM];omega
   by_cases e:dl n=1
   ·have h:(((cC n).length:Int)==1)=true:=qT (by omega);obtain⟨a1,a2⟩:=aCh e;have j:=cZ (xs:=cC n) (i:=0) (by omega);simp only[Int.natCast_zero]at j;rw[a1]at j;obtain⟨q,r,g1,u,k,s,t⟩:=aH0 (a:=cC m) (b:=(n:Int)) dm (by omega) (by omega) (by omega);rw[vm]at k s;have f:=zL false u (by omega);rw[k,pV]at f;simp only[h,bL,j,oB];refine Ev.bind t (Ev.bind f ?_);have hr:r=((m%n:Nat):Int):=by rw[s];simp
    have hrlt:m%n<n:=Nat.mod_lt _ z;rw[hr,aR6 (by omega),uA false (by omega),oB,pV];have:((((m:Int)/n).toNat:Nat):Int)=((m/n:Nat):Int):=by rw[←Int.natCast_ediv,Int.toNat_natCast]
    rw[this];exact Ev.pure _
   ·have h:(((cC n).length:Int)==1)=false:=qF (by omega);obtain⟨q,r,g1,u,k,s,t,x,I⟩:=aPV dm dn tn (by omega) (by omega) (by omega);rw[vm,vn]at t x;have f:=zL false k (by omega);have y:=zL false s (by omega);rw[t,pV]at f;rw[x,pV]at y;simp only[h,bG];refine Ev.bind I (Ev.bind f (Ev.bind y ?_));have J:((((m:Int)/n).toNat:Nat):Int)=((m/n:Nat):Int):=by rw[←Int.natCast_ediv,Int.toNat_natCast]
    have L:((((m:Int)%n).toNat:Nat):Int)=((m%n:Nat):Int):=by rw[←Int.natCast_emod,Int.toNat_natCast]
    rw[J,L];exact Ev.pure _
 unfold oO;rw[aCC dm,aCC dn];simp only[oB];by_cases e:(cC m).length≤2
 ·by_cases f:(cC n).length≤2
  ·rw[if_pos e,if_pos f];simp only[bL,vm,vn];have U:=aAg e;have V:=Nat.div_le_self m n;have hm:=Nat.mod_le m n;have h:chq (m:Int) (n:Int)=some ((m/n:Nat):Int):=by rw[xN (by omega) (by omega) (by omega)];simp
   have j:chr (m:Int) (n:Int)=some ((m%n:Nat):Int):=by rw[vM (by omega) (by omega)];simp
   simp only[h,j,oB];rw[aR6 (by omega),aR6 (by omega),uA false (by omega),uA false (by omega)];simp only[oB,pV];exact Ev.pure _
  ·rw[if_pos e,if_neg f];simp only[bL,bG];exact key
 ·rw[if_neg e];simp only[bG];exact key
theorem aL4{x y:Int}(O:y≠0)(hx:dl x.natAbs≤40000000000)(U:dl y.natAbs≤40000000000):Ev (fun K=>uT K (Z x) (Z y)) (Z (x/y),Z (x%y)):=by
 have hyl:dl y.natAbs≠0:=by rw[Ne,xM];omega
 have V:(((cC y.natAbs).length:Int)==0)=false:=qF (by show(dl y.natAbs:Int)≠0;omega);have X:=Nat.mod_lt x.natAbs (show 0<y.natAbs by omega);have hd:∀n:Nat,((Z (n:Int)).d.length:Int)=dl n:=fun n=>by rw[t5];simp
 have hdm:=aLh x.natAbs y.natAbs;have hmm:=aIp x.natAbs y.natAbs;have hnd:=Nat.div_add_mod x.natAbs y.natAbs;have bU:∀(q r:Nat),((if(x<0)↔(y<0) then(q:Int) else -(q:Int))=x/y)→((r:Int)=x%y)→Ev (fun K=>nA K (Z x) (Z y) (Z r) (Z q)) (Z (x/y),Z (x%y)):=by
  intro q r hq hr;refine Ev.of fun K=>?_
  unfold nA;rw[xA,xA,←hq,←hr];by_cases hs:(x<0)↔(y<0)
  ·have e:(decide (x<0) != decide (y<0))=false:=by simp[hs]
   rw[e,bG,if_pos hs];have:(Z (q:Int))=⟨false,(Z (q:Int)).d⟩:=by unfold Z;simp
   rw[←this]
  ·have e:(decide (x<0) != decide (y<0))=true:=by simp;exact hs
   rw[e,bL,if_neg hs];congr 2;unfold Z;rw[Int.natAbs_neg];congr 1;have:(cC (q:Int).natAbs).length=dl q:=by simp[dl]
   rw[this];by_cases u:q=0
   ·subst u;rw[yZ];rfl
   ·have:dl q≠0:=by rw[Ne,xM];exact u
    rw[dT (by omega),dT (by omega)]
 have eT:∀z:Int,(z.natAbs:Int)=z∨(z.natAbs:Int)=-z:=fun z=>by omega
 unfold uT;simp only[V,bG,Z_d,xA];refine Ev.bind (aGa (m:=x.natAbs) (n:=y.natAbs) (by omega) (by omega)) ?_;have c1:(x.natAbs:Int)=(y.natAbs:Int)*((x.natAbs/y.natAbs:Nat):Int)+((x.natAbs%y.natAbs:Nat):Int):=by
  rw[←Int.natCast_mul,←Int.natCast_add,hnd]
 generalize hq:x.natAbs/y.natAbs=q at *;generalize hr:x.natAbs%y.natAbs=r at *;have uniq:∀a b:Int,x=y*a+b→0≤b→b<y.natAbs→x/y=a∧x%y=b:=by
  intro a b Y F h3;have hm:x%y=b:=by
   rw[Y,Int.add_comm,Int.add_mul_emod_self_left];by_cases f:y<0
   ·have:b%y=b% -y:=by rw[Int.emod_neg]
    rw[this,Int.emod_eq_of_lt F (by omega)]
   ·exact Int.emod_eq_of_lt F (by omega)
  refine⟨?_,hm⟩;have h4:=Int.mul_ediv_add_emod x y;exact Int.eq_of_mul_eq_mul_left O (by omega)
 by_cases h:x<0
 ·have k:decide (x<0)=true:=dT h;simp only[k,bL];by_cases j:r=0
  ·subst j;have t:decide (0<((Z ((0:Nat):Int)).d.length:Int))=false:=by rw[Z_d,show((0:Nat):Int).natAbs=0 from rfl,aAG];rfl
   simp only[t,bG];refine bU q 0 ?_ ?_
   ·by_cases f:y<0
    ·rw[if_pos (by simp[h,f])];refine((uniq q 0 ?_ (by omega) (by omega)).1).symm;rw[show(y.natAbs:Int)=-y by omega,show(x.natAbs:Int)=-x by omega]at c1;rw[Int.neg_mul]at c1;omega
    ·rw[if_neg (by simp[h,f])];refine((uniq (-q) 0 ?_ (by omega) (by omega)).1).symm;rw[show(y.natAbs:Int)=y by omega,show(x.natAbs:Int)=-x by omega]at c1;rw[Int.mul_neg];omega
   ·by_cases f:y<0
    ·refine((uniq q 0 ?_ (by omega) (by omega)).2).symm;rw[show(y.natAbs:Int)=-y by omega,show(x.natAbs:Int)=-x by omega]at c1;rw[Int.neg_mul]at c1;omega
    ·refine((uniq (-q) 0 ?_ (by omega) (by omega)).2).symm;rw[show(y.natAbs:Int)=y by omega,show(x.natAbs:Int)=-x by omega]at c1;rw[Int.mul_neg];omega
  ·have hrl:dl r≠0:=by rw[Ne,xM];exact j
   have t:decide (0<((Z (r:Int)).d.length:Int))=true:=dT (by rw[t5];simp only[Int.natAbs_natCast];omega);simp only[t,bL];simp only[Z_d,Int.natAbs_natCast];have d1:m5 [1]:=m5.nil.cons (by omega) (by omega);obtain⟨p,p1,p2,G,p4⟩:=aJq (cG q) d1 (by show dl q≤_;omega) (by simp);rw[fC,vD1]at G;have I:=zL false p1 (by have:(cC q).length=dl q:=rfl;simp at p2;omega);rw[G,pV]at I;obtain⟨s,s1,s2,J,s4⟩:=aEZ (cG y.natAbs) (cG r) (tB (by omega)) (by rw[fC,fC];omega) (by show dl _≤_;omega);rw[fC,fC]at J;have L:=zL false s2 (by rw[s1];show dl _≤_;omega);rw[J,pV]at L;refine Ev.bind p4 (Ev.bind I (Ev.bind s4 (Ev.bind L ?_)));refine bU _ _ ?_ ?_
   ·by_cases f:y<0
    ·rw[if_pos (by simp[h,f])];refine((uniq (q+1) (y.natAbs-r) ?_ (by omega) (by omega)).1).symm▸(by omega);rw[show(y.natAbs:Int)=-y by omega,show(x.natAbs:Int)=-x by omega]at c1;rw[Int.neg_mul]at c1;rw[Int.mul_add];omega
    ·rw[if_neg (by simp[h,f])];refine((uniq (-(q+1)) (y.natAbs-r) ?_ (by omega) (by omega)).1).symm▸(by omega);rw[show(y.natAbs:Int)=y by omega,show(x.natAbs:Int)=-x by omega]at c1;rw[Int.mul_neg,Int.mul_add];omega
   ·by_cases f:y<0
    ·refine((uniq (q+1) (y.natAbs-r) ?_ (by omega) (by omega)).2).symm▸(by omega);rw[show(y.natAbs:Int)=-y by omega,show(x.natAbs:Int)=-x by omega]at c1;rw[Int.neg_mul]at c1;rw[Int.mul_add];omega
    ·refine((uniq (-(q+1)) (y.natAbs-r) ?_ (by omega) (by omega)).2).symm▸(by omega);rw[show(y.natAbs:Int)=y by omega,show(x.natAbs:Int)=-x by omega]at c1;rw[Int.mul_neg,Int.mul_add];omega
 ·have k:decide (x<0)=false:=dF h;simp only[k,bG];refine bU q r ?_ ?_
  ·by_cases f:y<0
   ·rw[if_neg (by simp[h,f])];refine((uniq (-q) r ?_ (by omega) (by omega)).1).symm;rw[show(y.natAbs:Int)=-y by omega,show(x.natAbs:Int)=x by omega]at c1;rw[Int.neg_mul]at c1;rw[Int.mul_neg];omega
   ·rw[if_pos (by simp[h,f])];refine((uniq q r ?_ (by omega) (by omega)).1).symm;rw[show(y.natAbs:Int)=y by omega,show(x.natAbs:Int)=x by omega]at c1;omega
  ·by_cases f:y<0
   ·refine((uniq (-q) r ?_ (by omega) (by omega)).2).symm;rw[show(y.natAbs:Int)=-y by omega,show(x.natAbs:Int)=x by omega]at c1;rw[Int.neg_mul]at c1;rw[Int.mul_neg];omega
   ·refine((uniq q r ?_ (by omega) (by omega)).2).symm;rw[show(y.natAbs:Int)=y by omega,show(x.natAbs:Int)=x by omega]at c1;omega
theorem aRJ(K:Nat):∀(n m k:Nat),n<k→l5 K k (m:Int) (n:Int)=some ((Nat.gcd m n:Nat):Int):=by
 intro n
 induction n using Nat.strongRecOn with
 |_ n ih=>
  intro m k e;obtain⟨f,rfl,_⟩:=aT e;by_cases h:n=0
  ·subst h;simp[l5]
  ·have j:decide (0<(n:Int))=true:=dT (by omega);have q:chr (m:Int) (n:Int)=some ((m%n:Nat):Int):=by rw[vM (by omega) (by omega)];simp
   simp only[l5,j,bL,q,oB];have hlt:=Nat.mod_lt m (show 0<n by omega);rw[ih (m%n) hlt n f (by omega)];congr 2;rw[Nat.gcd_comm m n,Nat.gcd_rec n m,Nat.gcd_comm]
theorem aRr:∀(n m:Nat),dl m≤60000000000→dl n≤60000000000→∃r,xG (fun K k=>kN K k (Z (m:Int)) (Z (n:Int))) r∧(r=.ret (Z (Nat.gcd m n:Nat))∨r=.go (Z (Nat.gcd m n:Nat))):=by
 intro n
 induction n using Nat.strongRecOn with
 |_ n ih=>
  intro m hm z;by_cases h:n=0
  ·subst h;refine⟨.go (Z m),xG.of 1 fun K k F=>?_,.inr (by simp)⟩;obtain⟨I,rfl,_⟩:=aT (n:=0) F;have e:decide (0<((Z ((0:Nat):Int)).d.length:Int))=false:=by rw[t5,show((0:Nat):Int).natAbs=0 from rfl,yZ];rfl
   simp only[kN,e,bG]
  ·have J:dl n≠0:=by rw[Ne,xM];exact h
   have s:decide (0<((cC n).length:Int))=true:=dT (by show(0:Int)<dl n;omega);have hlt:=Nat.mod_lt m (show 0<n by omega);obtain⟨r,u,y⟩:=ih (m%n) hlt n z (Nat.le_trans (aIp _ _) hm);have G:Nat.gcd n (m%n)=Nat.gcd m n:=by rw[Nat.gcd_comm m n,Nat.gcd_rec n m,Nat.gcd_comm]
   rw[G]at y;have hdiv:=aGa (m:=m) (n:=n) (by omega) hm;have zd:∀t:Nat,(Z (t:Int)).d=cC t:=fun t=>by rw[Z_d];simp
   by_cases hs:dl m≤2∧dl n≤2
   ·refine⟨.ret (Z (Nat.gcd m n:Nat)),xG.step ?_,.inl rfl⟩;have L:=aAg (n:=m) hs.1;have b2:=aAg (n:=n) hs.2;have hgl:Nat.gcd m n≤n:=Nat.gcd_le_right m (by omega);simp only[kN,s,bL,zd,aCC (cG m),aCC (cG n),fC,oB];rw[if_pos (show(cC m).length≤2 from hs.1),if_pos (show(cC n).length≤2 from hs.2)];simp only[bL];refine xG.bind (x:=((Nat.gcd m n:Nat):Int)) (f:=fun K=>l5 K K (m:Int) (n:Int)) ⟨n+1,fun K O=>aRJ K n m K (by omega)⟩ ?_;simp only[uZ,aR6 (show Nat.gcd m n≤18446744073709551615 by omega),uA false (show Nat.gcd m n≤18446744073709551615 by omega),oB,pV];exact xG.of 0 fun _ _ _=>rfl
   ·refine⟨r,xG.step ?_,y⟩;simp only[kN,s,bL,zd,aCC (cG m),aCC (cG n),fC,oB];by_cases j:(cC m).length≤2
    ·have q:¬(cC n).length≤2:=fun e=>hs ⟨j,e⟩
     rw[if_pos j,if_neg q];simp only[bL,bG];exact xG.bind hdiv u
    ·rw[if_neg j];simp only[bG];exact xG.bind hdiv u
theorem aM7{x y:Int}(h:dl x.natAbs≤60000000000)(j:dl y.natAbs≤60000000000):Ev (fun K=>uU K (Z x) (Z y)) (Z (Int.gcd x y:Nat)):=by
 unfold uU;have e:=zL false (cG x.natAbs) (by show dl _≤_;omega);have f:=zL false (cG y.natAbs) (by show dl _≤_;omega);rw[fC,pV,Int.toNat_natCast]at e f;simp only[Z_d];refine Ev.bind e (Ev.bind f ?_);obtain⟨r,k,q⟩:=aRr y.natAbs x.natAbs h j;refine Ev.bind k.ev ?_;rcases q with rfl|rfl
 ·exact Ev.pure _
 ·exact Ev.pure _
theorem aGT(u:List Int):∀(n:Nat),n≤u.length→n≤9000000000000→∃m:Nat,m≤n∧(∀i,m≤i→i<n→u.getD i 0=0)∧(m=0∨u.getD (m-1) 0≠0)∧∀K k,n<k→gF K u k n=some (m:Int)
 |0,_,_=>⟨0,Nat.le_refl _,fun i _ h=>by omega,.inl rfl,fun K k f=>by
   obtain⟨q,rfl,_⟩:=aT f;simp[gF]⟩
 |n+1,h,J=>by
  have t:aV (((n+1:Nat):Int)-1)=some (n:Int):=xH (m:=0) (by omega) (by omega);have x:decide (0<((n+1:Nat):Int))=true:=dT (by omega);have y:max (n:Int) 0=(n:Int):=by omega
  have z:=cZ (xs:=u) (i:=n) (by omega);by_cases j:u.getD n 0=0
  ·obtain⟨m,L,F,G,I⟩:=aGT u n (by omega) (by omega);refine⟨m,by omega,fun i a b=>?_,G,fun K k f=>?_⟩
   ·by_cases e:i=n
    ·subst e;exact j
    ·exact F i a (by omega)
   ·obtain⟨q,rfl,s⟩:=aT f;simp only[gF,y,t,x,z,qT j,bL,oB];exact I K q (by omega)
  ·refine⟨n+1,by omega,fun i a b=>by omega,.inr (by simpa using j),fun K k f=>?_⟩;obtain⟨q,rfl,s⟩:=aT f;simp only[gF,y,t,x,z,qF j,bL,bG,oB]
theorem k7(neg:Bool){u:List Int}(e:m5 u)(q:u.length≤9000000000000):Ev (fun K=>bB K neg u) (mkG neg (vD u).toNat):=by
 obtain⟨m,f,s,t,x⟩:=aGT u u.length (Nat.le_refl _) q;obtain⟨y,j⟩:=aVk e f s t;have z:=e.nonneg;refine⟨u.length+1,fun K F=>?_⟩;simp only[bB,x K K (by omega),oB,qB];unfold mkG;by_cases k:m=0
 ·rw[qT (by omega),bL,if_pos (by have:=j.1 k;omega)]
 ·rw[qF (by omega),bG,aID f,oB,if_neg (by intro h;exact k (j.2 (by omega))),y]
theorem aUD{u:List Int}{x:Int}(h:u.length≤60000000000):tC u [x]=some (u++[x]):=aBx (by simp;omega)
theorem m5.snoc{u:List Int}{x:Int}(h:m5 u)(f:0≤x)(j:x<1000000000):m5 (u++[x]):=fun i=>by
 rcases Nat.lt_trichotomy i u.length with e|e|e
 ·rw[aJt e];exact h i
 ·subst e;rw[aHl];exact⟨f,j⟩
 ·rw[wN (by simp;omega)];omega
theorem aQ3:∀(n:Nat) (neg:Bool) (u:List Int),n≤9223372036854775808→(neg=false→n≤9223372036854775807)→m5 u→u.length+n≤30000000000000000000→u.length+dl n≤50→∃r,m5 r∧r.length≤u.length+dl n∧vD r=vD u+n*PB u.length∧∀K k,n<k→d7 K k u (if neg then -(n:Int) else n)=some r:=by
 intro n
 induction n using Nat.strongRecOn with
 |_ n ih=>
  intro neg u U z hu V X;by_cases F:n=0
  ·subst F;refine⟨u,hu,by omega,by simp,fun K k t=>?_⟩;obtain⟨y,rfl,_⟩:=aT t;cases neg<;>simp[d7]
  ·have hdl:dl n=dl (n/1000000000)+1:=by unfold dl;rw[xV F];rfl
   obtain⟨r,g1,J,G,I⟩:=ih (n/1000000000) (by omega) neg (u++[((n%1000000000:Nat):Int)]) (by omega) (fun e=>by have:=z e;omega) (hu.snoc (by omega) (by omega)) (by simp;omega) (by simp;omega);have hul:(u++[((n%1000000000:Nat):Int)]).length=u.length+1:=by simp
   rw[hul]at J G;refine⟨r,g1,by omega,?_,fun K k t=>?_⟩
   ·rw[G];unfold vD;rw[hul,aPu];simp only[PB];have:(n:Int)=(n%1000000000:Nat)+((n/1000000000:Nat):Int)*1000000000:=by omega
    rw[show(n:Int)*PB u.length=((n%1000000000:Nat)+((n/1000000000:Nat):Int)*1000000000)*PB u.length by rw[←this]];grind
   ·obtain⟨y,rfl,_⟩:=aT t;have a1:∀x:Int,tC u [x]=some (u++[x]):=fun x=>aUD (by omega)
    cases neg with
    |false=>
     have f:=I K y (by omega);simp only[Bool.false_eq_true,if_false]at f ⊢;have:=z rfl;have j:((n:Int) != 0)=true:=nT (by omega);have q:chr (n:Int) 1000000000=some ((n%1000000000:Nat):Int):=by rw[vM (by omega) (by omega)];simp
     have s:chq (n:Int) 1000000000=some ((n/1000000000:Nat):Int):=by rw[xN (by omega) (by omega) (by omega)];simp
     have h:decide (((n%1000000000:Nat):Int)<0)=false:=dF (by omega);simp only[d7,j,q,s,h,a1,bL,bG,oB];exact f
    |true=>
     have f:=I K y (by omega);simp only[if_true]at f ⊢;have j:(-(n:Int) != 0)=true:=nT (by omega);have q:chr (-(n:Int)) 1000000000=some (-((n%1000000000:Nat):Int)):=by
      unfold chr;rw[if_neg (by omega),Int.neg_tmod,Int.tmod_eq_emod_of_nonneg (by omega)];simp
     have s:chq (-(n:Int)) 1000000000=some (-((n/1000000000:Nat):Int)):=by
      unfold chq;rw[if_neg (by omega),Int.neg_tdiv,Int.tdiv_eq_ediv_of_nonneg (by omega),show(n:Int)/1000000000=((n/1000000000:Nat):Int) by simp];exact tI (by omega)
     by_cases L:n%1000000000=0
     ·have h:decide (-((n%1000000000:Nat):Int)<0)=false:=dF (by omega);simp only[d7,j,q,s,h,a1,bL,bG,oB];rw[L]at f ⊢;exact f
     ·have h:decide (-((n%1000000000:Nat):Int)<0)=true:=dT (by omega);have O:aV (- -((n%1000000000:Nat):Int))=some ((n%1000000000:Nat):Int):=by rw[Int.neg_neg];exact tI (by omega)
      simp only[d7,j,q,s,h,O,a1,bL,oB];exact f
theorem aBO{n:Int}(h:-9223372036854775808≤n∧n≤9223372036854775807):Ev (fun K=>iX K n) (Z n):=by
 have x:dl n.natAbs≤3:=aDd (by
  have:PB 3=1000000000000000000000000000:=by decide
  omega)
 obtain⟨r,s,t,u,k⟩:=aQ3 n.natAbs (decide (n<0)) [] (by omega) (by simp;omega) m5.nil (by simp;omega) (by simp;omega);have e:(if decide (n<0)=true then -(n.natAbs:Int) else(n.natAbs:Int))=n:=by
  by_cases q:n<0
  ·rw[if_pos (by simpa using q)];omega
  ·rw[if_neg (by simpa using q)];omega
 rw[e]at k;have j:=k7 (decide (n<0)) s (by simp at t;omega);rw[u,vD0]at j;simp only[List.length_nil,PB,Int.mul_one,Int.zero_add,Int.toNat_natCast]at j;rw[vV,e]at j;unfold iX;refine Ev.bind (f:=fun K=>d7 K K [] n) ⟨n.natAbs+1,fun K y=>k K K (by omega)⟩ ?_;simp only[sW];exact Ev.bind j (Ev.pure _)
theorem wX(u:List Int)(i:Nat):dJ u (i:Int)=some (u.getD i 0):=by
 unfold dJ;by_cases h:i<u.length
 ·rw[dT (by omega),bL,cZ h,oB]
 ·rw[dF (by omega),bG,wN (by omega)]
theorem aUP{u:List Int}{x:Int}{i:Nat}(h:u.length=i):W (u++[x]) 0 (i+1)=W u 0 i+x*PB i:=by subst h;exact aPu
theorem aNU{a b:List Int}(O:m5 a)(hb:m5 b){M:Nat}(hL:a.length≤M)(hM:b.length≤M)(U:M≤50000000000):∀(t i:Nat) (out:List Int) (c:Int),M+1-i=t→i≤M+1→out.length=i→m5 out→0≤c→c≤1→(i=M+1→c=0)→W out 0 i+c*PB i=W a 0 i+W b 0 i→
  ∃r,r.length≤M+1∧m5 r∧vD r=vD a+vD b∧∀K k,t<k→cF K a b k out c (i:Int)=some r:=by
 intro t
 induction t with
 |zero=>
  intro i out c V X z F G I hc J;have hii:i=M+1:=by omega
  have:=hc hii;subst this;refine⟨out,by omega,F,?_,fun K k f=>?_⟩
  ·rw[aBI (u:=a) (by omega),aBI (u:=b) (by omega)]at J;unfold vD;rw[z];omega
  ·obtain⟨j,rfl,_⟩:=aT f;have Y:decide ((i:Int)<(a.length:Int))=false:=dF (by omega);have e2:decide ((i:Int)<(b.length:Int))=false:=dF (by omega);have e3:decide ((0:Int)<0)=false:=dF (by omega);simp only[cF,Y,e2,e3,bG]
 |succ t ih=>
  intro i out c V X z F G I hc J;have ha':=O i;have hb':=hb i;have f1:aV (a.getD i 0+b.getD i 0)=some (a.getD i 0+b.getD i 0):=tI (by omega);have f2:aV (a.getD i 0+b.getD i 0+c)=some (a.getD i 0+b.getD i 0+c):=tI (by omega);have f3:chr (a.getD i 0+b.getD i 0+c) 1000000000=some ((a.getD i 0+b.getD i 0+c)%1000000000):=vM (by omega) (by omega);have f4:chq (a.getD i 0+b.getD i 0+c) 1000000000=some ((a.getD i 0+b.getD i 0+c)/1000000000):=xN (by omega) (by omega) (by omega);have f5:aV ((i:Int)+1)=some ((i+1:Nat):Int):=xH (m:=0) (by omega) (by omega);have f6:∀x:Int,tC out [x]=some (out++[x]):=fun x=>aUD (by omega)
  have go:(i=M→a.getD i 0=0∧b.getD i 0=0)→i≤M→∃r,r.length≤M+1∧m5 r∧vD r=vD a+vD b∧∀K k,t<k→cF K a b k (out++[(a.getD i 0+b.getD i 0+c)%1000000000]) ((a.getD i 0+b.getD i 0+c)/1000000000) ((i+1:Nat):Int)=some r:=by
   intro hlast hile;refine ih (i+1) _ _ (by omega) (by omega) (by simp;omega) (F.snoc (by omega) (by omega)) (by omega) (by omega) (fun e=>?_) ?_
   ·have:=hlast (by omega);omega
   ·rw[aUP z,eH,eH,Nat.zero_add];simp only[PB];have hd:(a.getD i 0+b.getD i 0+c)%1000000000+1000000000*((a.getD i 0+b.getD i 0+c)/1000000000)=a.getD i 0+b.getD i 0+c:=by omega
    grind
  by_cases h1:i<a.length
  ·obtain⟨r,g1,q,s,y⟩:=go (fun e=>by omega) (by omega);refine⟨r,g1,q,s,fun K k f=>?_⟩;obtain⟨j,rfl,_⟩:=aT f;simp only[cF,dT (show(i:Int)<(a.length:Int) by omega),wX,f1,f2,f3,f4,f5,f6,bL,oB];exact y K j (Nat.lt_of_succ_lt_succ f)
  ·by_cases h2:i<b.length
   ·obtain⟨r,g1,q,s,y⟩:=go (fun e=>by omega) (by omega);refine⟨r,g1,q,s,fun K k f=>?_⟩;obtain⟨j,rfl,_⟩:=aT f;simp only[cF,dF (show¬(i:Int)<(a.length:Int) by omega),dT (show(i:Int)<(b.length:Int) by omega),wX,f1,f2,f3,f4,f5,f6,bL,bG,oB];exact y K j (Nat.lt_of_succ_lt_succ f)
   ·by_cases L:0<c
    ·obtain⟨r,g1,q,s,y⟩:=go (fun e=>⟨wN (by omega),wN (by omega)⟩) (by
      rcases Nat.lt_or_ge (M) i with h|h
      ·have:=hc (by omega);omega
      ·exact h)
     refine⟨r,g1,q,s,fun K k f=>?_⟩;obtain⟨j,rfl,_⟩:=aT f;simp only[cF,dF (show¬(i:Int)<(a.length:Int) by omega),dF (show¬(i:Int)<(b.length:Int) by omega),dT L,wX,f1,f2,f3,f4,f5,f6,bL,bG,oB];exact y K j (Nat.lt_of_succ_lt_succ f)
    ·refine⟨out,by omega,F,?_,fun K k f=>?_⟩
     ·rw[aBI (u:=a) (by omega),aBI (u:=b) (by omega)]at J;have:c=0:=by omega
      subst this;unfold vD;rw[z];omega
     ·obtain⟨j,rfl,_⟩:=aT f;simp only[cF,dF (show¬(i:Int)<(a.length:Int) by omega),dF (show¬(i:Int)<(b.length:Int) by omega),dF L,bG]
theorem aNq{a b:List Int}(e:m5 a)(hb:m5 b)(q:a.length≤50000000000)(hM:b.length≤50000000000):∃r,m5 r∧r.length≤max a.length b.length+1∧vD r=vD a+vD b∧Ev (fun K=>q0 K a b) r:=by
 obtain⟨r,f,h,j,k⟩:=aNU (M:=max a.length b.length) e hb (by omega) (by omega) (by omega) _ 0 [] 0 rfl (by omega) rfl m5.nil (by omega) (by omega) (by omega) (by simp[W]);refine⟨r,h,f,j,⟨max a.length b.length+2,fun K s=>?_⟩⟩;have:=k K K (by omega);simp only[Int.natCast_zero]at this;simp only[q0,this,oB,qP]
theorem aDF{a b:List Int}(s:m5 a)(hb:m5 b)(hbl:b.length≤a.length)(hv:vD b≤vD a)(J:a.length≤50000000000):∀(t i:Nat) (out:List Int) (c:Int),i+t=a.length→out.length=i→m5 out→0≤c→c≤1→W out 0 i-c*PB i=W a 0 i-W b 0 i→
  ∃r,r.length=a.length∧m5 r∧vD r=vD a-vD b∧∀K k,t<k→eN K a b k out c (i:Int)=some r
 |0,i,out,c,X,e,f,y,z,L=>by
  have:i=a.length:=by omega
  subst this;refine⟨out,e,f,?_,fun K k j=>?_⟩
  ·rw[aBI (u:=b) hbl]at L;have hlt:=f.lt;unfold vD at *;rw[e]at hlt ⊢;have:c=0:=by
    rcases Int.lt_or_le 0 c with h|h
    ·have:c=1:=by omega
     subst this;omega
    ·omega
   subst this;omega
  ·obtain⟨q,rfl,_⟩:=aT j;simp[eN]
 |t+1,i,out,c,X,e,f,y,z,L=>by
  have Y:=s i;have hb':=hb i;have O:decide ((i:Int)<(a.length:Int))=true:=dT (by omega);have U:=cZ (xs:=a) (i:=i) (by omega);have f1:aV (a.getD i 0-b.getD i 0)=some (a.getD i 0-b.getD i 0):=tI (by omega);have f2:aV (a.getD i 0-b.getD i 0-c)=some (a.getD i 0-b.getD i 0-c):=tI (by omega);have f5:aV ((i:Int)+1)=some ((i+1:Nat):Int):=xH (m:=0) (by omega) (by omega);have f6:∀x:Int,tC out [x]=some (out++[x]):=fun x=>aUD (by omega)
  by_cases V:a.getD i 0-b.getD i 0-c<0
  ·have f3:aV (a.getD i 0-b.getD i 0-c+1000000000)=some (a.getD i 0-b.getD i 0-c+1000000000):=tI (by omega);obtain⟨r,g1,F,G,I⟩:=aDF s hb hbl hv J t (i+1) (out++[a.getD i 0-b.getD i 0-c+1000000000]) 1 (by omega) (by simp;omega) (f.snoc (by omega) (by omega)) (by omega) (by omega) (by
    rw[aUP e,eH,eH,Nat.zero_add];simp only[PB];grind)
   refine⟨r,g1,F,G,fun K k j=>?_⟩;obtain⟨q,rfl,_⟩:=aT j;simp only[eN,O,U,wX,f1,f2,f3,f5,f6,dT V,bL,oB];exact I K q (by omega)
  ·obtain⟨r,g1,F,G,I⟩:=aDF s hb hbl hv J t (i+1) (out++[a.getD i 0-b.getD i 0-c]) 0 (by omega) (by simp;omega) (f.snoc (by omega) (by omega)) (by omega) (by omega) (by
    rw[aUP e,eH,eH,Nat.zero_add];simp only[PB];grind)
   refine⟨r,g1,F,G,fun K k j=>?_⟩;obtain⟨q,rfl,_⟩:=aT j;simp only[eN,O,U,wX,f1,f2,f5,f6,dF V,bL,bG,oB];exact I K q (by omega)
theorem aBy{a b:List Int}(e:m5 a)(hb:m5 b)(hbl:b.length≤a.length)(hv:vD b≤vD a)(f:a.length≤50000000000):
  ∃r,r.length=a.length∧m5 r∧vD r=vD a-vD b∧Ev (fun K=>gH K a b) r:=by
 obtain⟨r,g1,j,k,q⟩:=aDF e hb hbl hv f a.length 0 [] 0 (by omega) rfl m5.nil (by omega) (by omega) (by simp[W]);refine⟨r,g1,j,k,⟨a.length+1,fun K s=>?_⟩⟩;have h:=q K K (by omega);simp only[Int.natCast_zero]at h;simp only[gH,oB,h,qA]
theorem aD9{u v:List Int}(hu:m5 u)(hv:m5 v)(x:u.length=v.length)(y:u.length≤9000000000000):∀(j:Nat),j≤u.length→∀K k,j<k→
  dO K u v k ((j:Int)-1)=some (if W u 0 j<W v 0 j then .ret (-1) else if W v 0 j<W u 0 j then .ret 1 else .go ())
 |0,_,K,k,e=>by
  obtain⟨t,rfl,_⟩:=aT e;simp[dO,W]
 |j+1,J,K,k,e=>by
  obtain⟨t,rfl,z⟩:=aT e;have F:((j+1:Nat):Int)-1=(j:Int):=by omega
  have f:decide (0≤(j:Int))=true:=dT (by omega);have q:=cZ (xs:=u) (i:=j) (by omega);have s:=cZ (xs:=v) (i:=j) (by omega);rw[F];rcases Int.lt_trichotomy (u.getD j 0) (v.getD j 0) with h|h|h
  ·have:=aMe hu hv h;simp only[dO,f,q,s,dT h,bL,oB];rw[if_pos this]
  ·have G:aV ((j:Int)-1)=some ((j:Int)-1):=tI (by omega);have ih:=aD9 hu hv x y j (by omega) K t (by omega);have c1:(W u 0 (j+1)<W v 0 (j+1))↔(W u 0 j<W v 0 j):=by rw[eH,eH,Nat.zero_add,h];omega
   have I:(W v 0 (j+1)<W u 0 (j+1))↔(W v 0 j<W u 0 j):=by rw[eH,eH,Nat.zero_add,h];omega
   simp only[dO,f,q,s,dF (show¬u.getD j 0<v.getD j 0 by omega),dF (show¬v.getD j 0<u.getD j 0 by omega),G,bL,bG,oB,c1,I];exact ih
  ·have:=aMe hv hu h;simp only[dO,f,q,s,dF (show¬u.getD j 0<v.getD j 0 by omega),dT h,bL,bG,oB];rw[if_neg (by omega),if_pos this]
theorem aAU{u v:List Int}(hu:m5 u)(hv:m5 v)(tu:Top u)(tv:Top v)(j:u.length≤9000000000000):Ev (fun K=>dD K u v) (aAf (vD u) (vD v)):=by
 refine⟨u.length+1,fun K s=>?_⟩;unfold aAf;rcases Nat.lt_trichotomy u.length v.length with h|h|h
 ·have:=aIl hu hv tv h;simp only[dD,dT (show(u.length:Int)<(v.length:Int) by omega),bL];rw[if_pos this]
 ·have k:aV ((u.length:Int)-1)=some ((u.length:Int)-1):=tI (by omega);have q:=aD9 hu hv h j u.length (Nat.le_refl _) K K (by omega);simp only[dD,dF (show¬(u.length:Int)<(v.length:Int) by omega),dF (show¬(v.length:Int)<(u.length:Int) by omega),k,q,bG,oB];unfold vD;rw[←h];by_cases e:W u 0 u.length<W v 0 u.length
  ·rw[if_pos e,if_pos e]
  ·rw[if_neg e,if_neg e];by_cases f:W v 0 u.length<W u 0 u.length
   ·rw[if_pos f,if_pos f]
   ·rw[if_neg f,if_neg f];rfl
 ·have:=aIl hv hu tu h;simp only[dD,dF (show¬(u.length:Int)<(v.length:Int) by omega),dT (show(v.length:Int)<(u.length:Int) by omega),bL,bG];rw[if_neg (by omega),if_pos this]
theorem aGJ(x:Int)(j:dl x.natAbs≤60000000000):Ev (fun K=>nC K (Z x)) (Z (-x)):=by
 unfold nC;have h:=k7 (!decide (x<0)) (cG x.natAbs) (by show dl _≤_;omega);rw[fC,Int.toNat_natCast,vV]at h;have e:(if(!decide (x<0))=true then -(x.natAbs:Int) else(x.natAbs:Int))=-x:=by
  by_cases f:x<0
  ·rw[dT f];simp;omega
  ·rw[dF f];simp;omega
 rw[e]at h;exact Ev.bind h (Ev.pure _)
theorem aKG{x y:Int}(z:dl x.natAbs≤40000000000)(F:dl y.natAbs≤40000000000):Ev (fun K=>p6 K (Z x) (Z y)) (Z (x+y)):=by
 have dx:=cG x.natAbs;have dy:=cG y.natAbs;have vx:=fC x.natAbs;have vy:=fC y.natAbs;have tx:=rG x.natAbs;have ty:=rG y.natAbs;have lx:(cC x.natAbs).length≤40000000000:=z;have ly:(cC y.natAbs).length≤40000000000:=F;unfold p6;simp only[Z_d,xA];by_cases hs:(decide (x<0)==decide (y<0))=true
 ·simp only[hs,bL];obtain⟨r,k,j,u,e⟩:=aNq dx dy (by omega) (by omega);have f:=k7 (decide (x<0)) k (by omega);refine Ev.bind e (Ev.bind f ?_);rw[vV];have q:(x<0)↔(y<0):=by simpa using hs
  have:(if decide (x<0)=true then -(((vD r).toNat:Nat):Int) else(((vD r).toNat:Nat):Int))=x+y:=by
   by_cases h:x<0
   ·rw[if_pos (by simpa using h)];omega
   ·rw[if_neg (by simpa using h)];omega
  rw[this];exact Ev.pure _
 ·simp only[Bool.not_eq_true]at hs;simp only[hs,bG];have q:¬((x<0)↔(y<0)):=by simpa using hs
  refine Ev.bind (aAU dx dy tx ty (by omega)) ?_;rw[vx,vy];unfold aAf;by_cases hlt:x.natAbs<y.natAbs
  ·have hle:(cC x.natAbs).length≤(cC y.natAbs).length:=tB (by omega);obtain⟨r,k,j,u,e⟩:=aBy dy dx hle (by omega) (by omega);have f:=k7 (decide (y<0)) j (by omega);rw[if_pos (by omega)];refine Ev.congr (g:=fun K=>(gH K (cC y.natAbs) (cC x.natAbs)).bind fun s=>(bB K (decide (y<0)) s).bind fun t=>some t) ?_ (fun K=>rfl);refine Ev.bind e (Ev.bind f ?_);rw[vV];have:(if decide (y<0)=true then -(((vD r).toNat:Nat):Int) else(((vD r).toNat:Nat):Int))=x+y:=by
    by_cases h:y<0
    ·rw[if_pos (by simpa using h)];omega
    ·rw[if_neg (by simpa using h)];omega
   rw[this];exact Ev.pure _
  ·have hle:(cC y.natAbs).length≤(cC x.natAbs).length:=tB (by omega);obtain⟨r,k,j,u,e⟩:=aBy dx dy hle (by omega) (by omega);have f:=k7 (decide (x<0)) j (by omega);have hc:decide ((if(x.natAbs:Int)<y.natAbs then(-1:Int) else if(y.natAbs:Int)<x.natAbs then 1 else 0)<0)=false:=by
    rw[if_neg (by omega)];split<;>rfl
   simp only[hc,bG];refine Ev.bind e (Ev.bind f ?_);rw[vV];have:(if decide (x<0)=true then -(((vD r).toNat:Nat):Int) else(((vD r).toNat:Nat):Int))=x+y:=by
    by_cases h:x<0
    ·rw[if_pos (by simpa using h)];omega
    ·rw[if_neg (by simpa using h)];omega
   rw[this];exact Ev.pure _
theorem aKw{f:List Int}{x y:aC}{i:Nat}(s:m5 x.d)(hb:m5 y.d)(u:i<x.d.length)(I:i+y.d.length≤f.length)(J:f.length≤9000000000000):∀(t k:Nat) (out:List Int) (c:Int),k+t=y.d.length→aIF f y.d i (x.d.getD i 0) out c k→
  ∃out' c',aIF f y.d i (x.d.getD i 0) out' c' y.d.length∧∀K n,t<n→iR K x y (i:Int) n out c (k:Int)=some (out',c')
 |0,k,out,c,L,e=>by
  have:k=y.d.length:=by omega
  subst this;refine⟨out,c,e,fun K n h=>?_⟩;obtain⟨F,rfl,_⟩:=aT h;simp[iR]
 |t+1,k,out,c,L,e=>by
  have G:=s i;obtain⟨g1,g2,g3,g4,g5,g6,O⟩:=e.step (by omega) G.1 G.2 hb;have c0:=e.c0;have c1:=e.c1;have hlo:=e.len;have U:=cZ (xs:=x.d) (i:=i) u;have V:decide ((k:Int)<(y.d.length:Int))=true:=dT (by omega);have X:=cZ (xs:=y.d) (i:=k) (by omega);have Y:aV ((k:Int)+1)=some ((k+1:Nat):Int):=xH (m:=0) (by omega) (by omega);have e4:aV ((i:Int)+(k:Int))=some ((i+k:Nat):Int):=xH (m:=0) (by omega) (by omega);have e5:=cZ (xs:=out) (i:=i+k) (by omega);have e6:aV (x.d.getD i 0*y.d.getD k 0)=some (x.d.getD i 0*y.d.getD k 0):=tI (by omega);have e7:aV (out.getD (i+k) 0+x.d.getD i 0*y.d.getD k 0)=some (out.getD (i+k) 0+x.d.getD i 0*y.d.getD k 0):=tI (by omega);have e8:aV (out.getD (i+k) 0+x.d.getD i 0*y.d.getD k 0+c)=some (out.getD (i+k) 0+x.d.getD i 0*y.d.getD k 0+c):=tI (by omega);have e9:chq (out.getD (i+k) 0+x.d.getD i 0*y.d.getD k 0+c) 1000000000=some ((out.getD (i+k) 0+x.d.getD i 0*y.d.getD k 0+c)/1000000000):=xN (by omega) (by omega) (by omega);have j:chr (out.getD (i+k) 0+x.d.getD i 0*y.d.getD k 0+c) 1000000000=some ((out.getD (i+k) 0+x.d.getD i 0*y.d.getD k 0+c)%1000000000):=vM (by omega) (by omega);have q:∀z,rW out ((i+k:Nat):Int) z=some (out.set (i+k) z):=fun z=>uX (by omega)
  obtain⟨o,d,h1,h2⟩:=aKw s hb u I J t (k+1) _ _ (by omega) O;refine⟨o,d,h1,fun K n h=>?_⟩;obtain⟨F,rfl,_⟩:=aT h;simp only[iR,U,V,X,Y,e4,e5,e6,e7,e8,e9,j,q,bL,oB];exact h2 K F (by omega)
theorem aJD{x y:aC}(h:m5 x.d)(hb:m5 y.d)(s:x.d.length+y.d.length≤9000000000000):∀(t i:Nat) (out:List Int),i+t=x.d.length→aE4 x.d y.d out i→
  ∃out',aE4 x.d y.d out' x.d.length∧xG (fun K k=>iP K x y k out (i:Int)) out'
 |0,i,out,u,e=>by
  have:i=x.d.length:=by omega
  subst this;refine⟨out,e,xG.of 1 fun K n z=>?_⟩;obtain⟨X,rfl,_⟩:=aT (n:=0) z;simp[iP]
 |t+1,i,out,u,e=>by
  have hlo:=e.len;obtain⟨o,c,j,F⟩:=aKw h hb (by omega) (by omega) (by omega) y.d.length 0 out 0 (by omega) e.row;have q:=j.len;obtain⟨r,G,I⟩:=aJD h hb s t (i+1) _ (by omega) (e.next (by omega) j);refine⟨r,G,xG.step ?_⟩;have J:decide ((i:Int)<(x.d.length:Int))=true:=dT (by omega);have L:aV ((i:Int)+1)=some ((i+1:Nat):Int):=xH (m:=0) (by omega) (by omega);have O:aV ((i:Int)+(y.d.length:Int))=some ((i+y.d.length:Nat):Int):=xH (m:=0) (by omega) (by omega);have U:=cZ (xs:=o) (i:=i+y.d.length) (by omega);have V:rW o ((i+y.d.length:Nat):Int) c=some (o.set (i+y.d.length) c):=uX (by omega);simp only[iP,J,bL];refine xG.bind (x:=(o,c)) (f:=fun K=>iR K x y (i:Int) K out 0 0) ⟨y.d.length+1,fun K Y=>F K K (by omega)⟩ ?_;simp only[rP,L,O,U,V,oB];exact I
theorem aA7{x y:Int}(s:dl x.natAbs+dl y.natAbs≤60000000000):Ev (fun K=>jC K (Z x) (Z y)) (Z (x*y)):=by
 have dx:=cG x.natAbs;have dy:=cG y.natAbs;have lx:(cC x.natAbs).length=dl x.natAbs:=rfl;have ly:(cC y.natAbs).length=dl y.natAbs:=rfl;obtain⟨r,e,f⟩:=aJD (x:=Z x) (y:=Z y) dx dy (by rw[t5,t5];omega) (Z x).d.length 0 _ (by omega) (aE4.start _ _);have h:aV (((Z x).d.length:Int)+((Z y).d.length:Int))=some (((Z x).d.length+(Z y).d.length:Nat):Int):=xH (m:=0) (by omega) (by rw[t5,t5];omega);have j:mkL (((Z x).d.length+(Z y).d.length:Nat):Int) (0:Int)=some (List.replicate ((Z x).d.length+(Z y).d.length) 0):=aBz (by rw[t5,t5];omega);unfold jC;simp only[h,j,oB];refine Ev.bind f.ev ?_;have k:=k7 ((Z x).neg != (Z y).neg) e.ok (by rw[e.len,t5,t5];omega);unfold rT;refine Ev.bind k ?_;have hv:vD r=x.natAbs*y.natAbs:=by
  have:=e.val;rw[←e.len]at this;have vx:=fC x.natAbs;have vy:=fC y.natAbs;unfold vD at *;rw[this];show W (cC x.natAbs) 0 (cC x.natAbs).length*W (cC y.natAbs) 0 (cC y.natAbs).length=_;rw[vx,vy]
 rw[vV,xA,xA,hv];have:(if(decide (x<0) != decide (y<0))=true then -((((x.natAbs:Int)*y.natAbs).toNat:Nat):Int) else((((x.natAbs:Int)*y.natAbs).toNat:Nat):Int))=x*y:=by
  have q:0≤(x.natAbs:Int)*y.natAbs:=Int.mul_nonneg (by omega) (by omega);rw[Int.toNat_of_nonneg q];exact aIC x y
 rw[this];exact Ev.pure _
theorem aCS{u:List Int}(hu:m5 u)(h:u.length≤2):g8 u=some (vD u):=by
 have e:=hu 0;have f:=hu 1;have d0:=wX u 0;have d1:=wX u 1;simp only[Int.natCast_zero,Int.natCast_one]at d0 d1;have f1:aV (u.getD 1 0*1000000000)=some (u.getD 1 0*1000000000):=tI (by omega);have f2:aV (u.getD 1 0*1000000000+u.getD 0 0)=some (u.getD 1 0*1000000000+u.getD 0 0):=tI (by omega);simp only[g8,d0,d1,f1,f2,oB];have:vD u=W u 0 2:=(aBI h).symm;rw[this,W2,Nat.zero_add];congr 1;omega
theorem aHa(n:Nat):(Z (n:Int)).d=cC n:=by rw[Z_d];simp
theorem aF7(n k:Nat)(h:k≤999999999)(j:dl n≤40000000000):Ev (fun K=>kC K (cC n) (k:Int)) (cC (n*k)):=by
 unfold kC;have e:=k7 false (cG n) (by show dl _≤_;omega);rw[fC,Int.toNat_natCast,pV]at e;refine Ev.bind e (Ev.bind (aBO (n:=(k:Int)) (by omega)) ?_);have f:dl k≤1:=aDd (by
  have:PB 1=1000000000:=by decide
  omega)
 refine Ev.bind (aA7 (x:=(n:Int)) (y:=(k:Int)) (by simp;omega)) ?_;have:(Z ((n:Int)*k)).d=cC (n*k):=by rw[←Int.natCast_mul,aHa]
 rw[this];exact Ev.pure _
theorem aUR(a b:Int):decide (aAf a b≤0)=decide (a≤b):=by
 unfold aAf;by_cases h:a<b
 ·rw[if_pos h,dT (by omega),dT (by omega)]
 ·rw[if_neg h];by_cases e:b<a
  ·rw[if_pos e,dF (by omega),dF (by omega)]
  ·rw[if_neg e,dT (by omega),dT (by omega)]
theorem aUr(a b:Int):decide (aAf a b<0)=decide (a<b):=by
 unfold aAf;by_cases h:a<b
 ·rw[if_pos h,dT (by omega),dT h]
 ·rw[if_neg h,dF h];by_cases e:b<a
  ·rw[if_pos e];rfl
  ·rw[if_neg e];rfl
theorem aED{n R:Nat}(L:0<n)(x:dl n≤40000000000)(O:dl R≤90000000000):∀(t lo e:Nat),e-lo≤t→lo≤e→e≤999999999→lo*n≤R→R<(e+1)*n→xG (fun K k=>bQ K (cC n) (Z (R:Int)) k (lo:Int) (e:Int)) ((R/n:Nat):Int):=by
 intro t
 induction t with
 |zero=>
  intro lo e y hle hhi f h;have:lo=e:=by omega
  subst this;refine xG.of 1 fun K k j=>?_
  obtain⟨z,rfl,_⟩:=aT (n:=0) j;have:R/n=lo:=Nat.div_eq_of_lt_le f h;simp only[bQ,dF (show¬(lo:Int)<(lo:Int) by omega),bG,this]
 |succ t ih=>
  intro lo e y hle hhi f h;by_cases hlt:lo<e
  ·refine xG.step ?_;have F:aV ((lo:Int)+(e:Int))=some ((lo+e:Nat):Int):=xH (m:=0) (by omega) (by omega);have G:aV (((lo+e:Nat):Int)+1)=some ((lo+e+1:Nat):Int):=xH (m:=0) (by omega) (by omega);have u:chq ((lo+e+1:Nat):Int) 2=some (((lo+e+1)/2:Nat):Int):=by rw[xN (by omega) (by omega) (by omega)];congr 1
   obtain⟨mid,hm⟩:∃m,(lo+e+1)/2=m:=⟨_,rfl⟩;rw[hm]at u;have I:lo<mid:=by omega
   have q:mid≤e:=by omega
   simp only[bQ,dT (show(lo:Int)<(e:Int) by omega),bL,F,G,u,oB];refine xG.bind (aF7 n mid (by omega) x) ?_;have hdm:dl (n*mid)≤9000000000000:=by
    have:=aGy n mid;have:dl mid≤1:=aDd (by
     have:PB 1=1000000000:=by decide
     omega)
    omega
   rw[aHa];refine xG.bind (aAU (cG _) (cG _) (rG _) (rG _) hdm) ?_;rw[fC,fC,aUR];by_cases hc:n*mid≤R
   ·have s:decide (((n*mid:Nat):Int)≤(R:Int))=true:=dT (by omega);simp only[s,bL];exact ih mid e (by omega) q hhi (by rw[Nat.mul_comm];exact hc) h
   ·have s:decide (((n*mid:Nat):Int)≤(R:Int))=false:=dF (by omega);have J:aV ((mid:Int)-1)=some ((mid-1:Nat):Int):=xH (m:=0) (by omega) (by omega);simp only[s,bG,J,oB];refine ih lo (mid-1) (by omega) (by omega) (by omega) f ?_;rw[show mid-1+1=mid by omega,Nat.mul_comm];omega
  ·have:lo=e:=by omega
   subst this;refine xG.of 1 fun K k j=>?_
   obtain⟨z,rfl,_⟩:=aT (n:=0) j;have:R/n=lo:=Nat.div_eq_of_lt_le f h;simp only[bQ,dF (show¬(lo:Int)<(lo:Int) by omega),bG,this]
theorem aD3{a:List Int}{n:Nat}(I:m5 a)(u:0<n)(x:dl n≤40000000000)(hM:a.length≤40000000000):∀(j:Nat) (q:List Int) (r:Nat),j≤a.length→q.length=a.length→Dr q j (a.length-j)→r<n→W a j (a.length-j)=n*W q j (a.length-j)+r→
  ∃f h,f.length=a.length∧m5 f∧h<n∧vD a=n*vD f+(h:Nat)∧xG (fun K k=>bH K a (cC n) k q (cC r) ((j:Int)-1)) (f,cC h)
 |0,q,r,O,hq,z,hr,y=>by
  refine⟨q,r,hq,Dr.ok (by rw[hq];simpa using z),hr,?_,xG.of 1 fun K k U=>?_⟩
  ·simp only[Nat.sub_zero]at y;unfold vD;rw[hq];exact y
  ·obtain⟨k',rfl,_⟩:=aT (n:=0) U;simp[bH]
 |j+1,q,r,O,hq,z,hr,y=>by
  have t:=I j;have V:((j+1:Nat):Int)-1=(j:Int):=by omega
  have X:decide (0≤(j:Int))=true:=dT (by omega);have Y:=cZ (xs:=a) (i:=j) (by omega);have e3:aV ((j:Int)-1)=some ((j:Int)-1):=tI (by omega);have e4:=cZ (xs:=q) (i:=j) (by omega);have e5:∀v,rW q (j:Int) v=some (q.set j v):=fun v=>uX (by omega)
  have hrl:dl r≤dl n:=tB (by omega);have hrl':(cC r).length=dl r:=rfl;have e6:tC [a.getD j 0] (cC r)=some (a.getD j 0::cC r):=aBx (by simp;omega);obtain⟨R,hR⟩:∃R:Nat,(R:Int)=a.getD j 0+1000000000*r:=⟨(a.getD j 0+1000000000*r).toNat,by omega⟩;have hd:m5 (a.getD j 0::cC r):=(cG r).cons t.1 t.2;have hv:vD (a.getD j 0::cC r)=R:=by
   rw[hR];have:vD (a.getD j 0::cC r)=a.getD j 0+1000000000*vD (cC r):=aLH _ _;rw[this,fC]
  have J:=k7 false hd (by simp;omega);rw[hv,Int.toNat_natCast,pV]at J;have F:R<1000000000*n:=by
   have:(R:Int)<1000000000*n:=by omega
   omega
  have hRl:dl R≤dl n+1:=aDd (by
   have:=aGh n;simp only[PB];omega)
  have G:R/n<1000000000:=Nat.div_lt_of_lt_mul (by rw[Nat.mul_comm];exact F);have hnm:=Nat.div_add_mod R n;have hml:=Nat.mod_lt R u;have hdig:Ev (fun K=>(bif decide (R<n) then bQ K (cC n) (Z (R:Int)) K 0 0 else bQ K (cC n) (Z (R:Int)) K 0 999999999)) ((R/n:Nat):Int):=by
   by_cases hlt:R<n
   ·rw[dT hlt];simp only[bL];exact(aED u x (by omega) 0 0 0 (by omega) (by omega) (by omega) (by omega) (by omega)).ev
   ·rw[dF hlt];simp only[bG];exact(aED u x (by omega) 999999999 0 999999999 (by omega) (by omega) (by omega) (by omega) (by omega)).ev
  have h2:=aF7 n (R/n) (by omega) x;have hle:n*(R/n)≤R:=by omega
  obtain⟨s,s1,s2,s3,s4⟩:=aBy (cG R) (cG (n*(R/n))) (tB hle) (by rw[fC,fC];omega) (by show dl R≤_;omega);rw[fC,fC]at s3;have L:=k7 false s2 (by rw[s1];show dl R≤_;omega);have hs:(vD s).toNat=R%n:=by omega
  rw[hs,pV]at L;have es:a.length-j=(a.length-(j+1))+1:=by omega
  obtain⟨f,h,g1,g2,g3,g4,g5⟩:=aD3 I u x hM j (q.set j ((R/n:Nat):Int)) (R%n) (by omega) (by simpa using hq)
   (fun i hi=>by
    by_cases e:i=0
    ·subst e;rw[Nat.add_zero,eZ (by omega)];exact⟨Int.natCast_nonneg _,Int.ofNat_lt.2 G⟩
    ·rw[gD (by omega)];have:=z (i-1) (by omega)
     rwa [show j+1+(i-1)=j+i by omega]at this) hml (by
    rw[es,aDm,aDm,eZ (by omega),zO (.inl (by omega)),y];have:(R:Int)=n*(R/n:Nat)+(R%n:Nat):=by rw[←Int.natCast_mul,←Int.natCast_add,hnm]
    grind)
  refine⟨f,h,g1,g2,g3,g4,xG.step ?_⟩;rw[V];simp only[bH,X,Y,e6,bL,oB];refine xG.bind J ?_;rw[aHa];refine xG.bind (aAU (cG _) (cG _) (rG _) (rG _) (by show dl R≤_;omega)) ?_;rw[fC,fC,aUr];have bU:xG (fun K k=>jK K (cC n) q (j:Int) (Z (R:Int)) (bH K a (cC n) k) ((R/n:Nat):Int)) (f,cC h):=by
   simp only[jK];refine xG.bind h2 ?_;rw[aHa];refine xG.bind s4 (xG.bind L ?_);simp only[e3,e4,e5,oB,aHa];exact g5
  by_cases hlt:R<n
  ·have c1:decide ((R:Int)<(n:Int))=true:=dT (by omega);rw[dT hlt]at hdig;simp only[bL]at hdig;simp only[c1,bL,gK];exact xG.bind hdig bU
  ·have c1:decide ((R:Int)<(n:Int))=false:=dF (by omega);rw[dF hlt]at hdig;simp only[bG]at hdig;simp only[c1,bG,gK];exact xG.bind hdig bU
theorem aGp(K:Nat)(b:List Int)(x:aC):∀(k:Nat) (lo e:Int),fR K b x k lo e=bQ K b x k lo e
 |0,_,_=>rfl
 |k+1,lo,e=>by simp only[fR,bQ,aGp K b x k]
theorem aGm(K:Nat)(a b:List Int):∀(k:Nat) (q r:List Int) (j:Int),cO K a b k q r j=bH K a b k q r j
 |0,_,_,_=>rfl
 |k+1,q,r,j=>by
  have ih:cO K a b k=bH K a b k:=by funext q r j;exact aGm K a b k q r j
  simp only[cO,bH,k9,gK,nJ,jK,aGp,ih]
theorem aId{m n:Nat}(e:0<n)(F:dl n≤40000000000)(hM:dl m≤40000000000):∃q,q.length≤dl m+2∧m5 q∧vD q=(m/n:Nat)∧Ev (fun K=>kG K (cC m) (cC n)) (q,cC (m%n)):=by
 have dm:=cG m;have dn:=cG n;have vm:=fC m;have vn:=fC n;have lm:(cC m).length=dl m:=rfl;have ln:(cC n).length=dl n:=rfl;obtain⟨q,r,g1,f,t,u,x⟩:=aD3 (a:=cC m) dm e F (by omega) (cC m).length (List.replicate (cC m).length 0) 0 (Nat.le_refl _) (by simp) (aIh _ _ _) e (by simp[W]);rw[vm]at u;have hqn:=f.nonneg;have hmn:m=n*(vD q).toNat+r:=by
  have:(m:Int)=((n*(vD q).toNat+r:Nat):Int):=by rw[u,Int.natCast_add,Int.natCast_mul,Int.toNat_of_nonneg hqn]
  omega
 have hq:(vD q).toNat=m/n:=by
  rw[hmn,Nat.mul_add_div e,Nat.div_eq_of_lt t,Nat.add_zero]
 have hr:r=m%n:=by rw[hmn,Nat.mul_add_mod,Nat.mod_eq_of_lt t]
 subst hr;rw[aAG]at x;have G:mkL ((cC m).length:Int) (0:Int)=some (List.replicate (cC m).length 0):=aBz (by omega);have I:aV (((cC m).length:Int)-1)=some (((cC m).length:Int)-1):=tI (by omega);have core:Ev (fun K=>(mkL ((cC m).length:Int) (0:Int)).bind fun h=>(aV (((cC m).length:Int)-1)).bind fun j=>(bH K (cC m) (cC n) K h [] j).bind fun(k,s)=>lI K k s) (q,cC (m%n)):=by
  simp only[G,I,oB];refine Ev.bind x.ev ?_;simp only[lI];exact Ev.pure _
 by_cases y:(cC m).length≤2
 ·by_cases z:(cC n).length≤2
  ·have L:=aAg y;have b2:=aAg z;have O:=Nat.div_le_self m n;have hm:=Nat.mod_le m n;refine⟨cC (m/n),by have:=aLh m n;show dl _≤_;omega,cG _,fC _,?_⟩;have c1:chq (m:Int) (n:Int)=some ((m/n:Nat):Int):=by rw[xN (by omega) (by omega) (by omega)];simp
   have J:chr (m:Int) (n:Int)=some ((m%n:Nat):Int):=by rw[vM (by omega) (by omega)];simp
   unfold kG;simp only[dT (show((cC m).length:Int)≤2 by omega),dT (show((cC n).length:Int)≤2 by omega),bL,aCS dm y,aCS dn z,vm,vn,c1,J,oB];refine Ev.bind (aBO (by omega)) (Ev.bind (aBO (by omega)) ?_);rw[aHa,aHa];exact Ev.pure _
  ·refine⟨q,by omega,f,by omega,?_⟩;unfold kG;simp only[dT (show((cC m).length:Int)≤2 by omega),dF (show¬((cC n).length:Int)≤2 by omega),bL,bG];exact core
 ·refine⟨q,by omega,f,by omega,?_⟩;unfold kG;simp only[dF (show¬((cC m).length:Int)≤2 by omega),bG,aGm];exact core
theorem aFc{x y a b:Int}(f:y≠0)(h:x=y*a+b)(e:0≤b)(k:b<y.natAbs):x/y=a∧x%y=b:=by
 have hm:x%y=b:=by
  rw[h,Int.add_comm,Int.add_mul_emod_self_left];by_cases j:y<0
  ·have:b%y=b% -y:=by rw[Int.emod_neg]
   rw[this,Int.emod_eq_of_lt e (by omega)]
  ·exact Int.emod_eq_of_lt e (by omega)
 refine⟨?_,hm⟩;have q:=Int.mul_ediv_add_emod x y;exact Int.eq_of_mul_eq_mul_left f (by omega)
theorem aGz{x y:Int}(j:y≠0)(hx:dl x.natAbs≤30000000000)(V:dl y.natAbs≤30000000000):Ev (fun K=>lW K (Z x) (Z y)) (Z (x/y),Z (x%y)):=by
 have X:(((cC y.natAbs).length:Int)==0)=false:=qF (by
  show(dl y.natAbs:Int)≠0;have:dl y.natAbs≠0:=by rw[Ne,xM];omega
  omega)
 obtain⟨q,q1,Y,q3,q4⟩:=aId (m:=x.natAbs) (n:=y.natAbs) (by omega) (by omega) (by omega);have hdm:=aLh x.natAbs y.natAbs;have hmm:=aIp x.natAbs y.natAbs;have hnd:=Nat.div_add_mod x.natAbs y.natAbs;have hml:=Nat.mod_lt x.natAbs (show 0<y.natAbs by omega);have hln:(cC (x.natAbs%y.natAbs)).length=dl (x.natAbs%y.natAbs):=rfl;have G:=k7 (decide (x<0) != decide (y<0)) Y (by omega);have I:=k7 false (cG (x.natAbs%y.natAbs)) (by omega);rw[q3,Int.toNat_natCast,vV]at G;rw[fC,Int.toNat_natCast,pV]at I;unfold lW;simp only[Z_d,xA,X,bG];refine Ev.bind q4 (Ev.bind G (Ev.bind I ?_));have c1:(x.natAbs:Int)=(y.natAbs:Int)*((x.natAbs/y.natAbs:Nat):Int)+((x.natAbs%y.natAbs:Nat):Int):=by
  rw[←Int.natCast_mul,←Int.natCast_add,hnd]
 generalize x.natAbs/y.natAbs=Q at *;generalize x.natAbs%y.natAbs=R at *;by_cases k:x<0
 ·have z:decide (x<0)=true:=dT k;by_cases J:R=0
  ·subst J;have F:decide (0<((Z ((0:Nat):Int)).d.length:Int))=false:=by rw[Z_d,show((0:Nat):Int).natAbs=0 from rfl,aAG];rfl
   simp only[z,F,bL,bG];by_cases e:y<0
   ·rw[dT e];rw[show(y.natAbs:Int)=-y by omega,show(x.natAbs:Int)=-x by omega,Int.neg_mul]at c1;obtain⟨f,h⟩:=aFc (x:=x) (y:=y) (a:=Q) (b:=0) j (by omega) (by omega) (by omega);rw[f,h];exact Ev.pure _
   ·rw[dF e];rw[show(y.natAbs:Int)=y by omega,show(x.natAbs:Int)=-x by omega]at c1;obtain⟨f,h⟩:=aFc (x:=x) (y:=y) (a:=-Q) (b:=0) j (by rw[Int.mul_neg];omega) (by omega) (by omega);rw[f,h];exact Ev.pure _
  ·have hrl:dl R≠0:=by rw[Ne,xM];exact J
   have F:decide (0<((Z (R:Int)).d.length:Int))=true:=dT (by rw[t5];simp only[Int.natAbs_natCast];omega);simp only[z,F,bL];have L:=k7 (true != decide (y<0)) (u:=[1]) (m5.nil.cons (by omega) (by omega)) (by simp);rw[vD1,show(1:Int).toNat=1 from rfl,vV]at L;obtain⟨s,s1,s2,O,s4⟩:=aBy (cG y.natAbs) (cG R) (tB (by omega)) (by rw[fC,fC];omega) (by show dl _≤_;omega);rw[fC,fC]at O;have U:=k7 false s2 (by rw[s1];show dl _≤_;omega);rw[O,pV]at U;refine Ev.bind L ?_;have hsz:∀b:Bool,dl (if b=true then -(Q:Int) else(Q:Int)).natAbs≤40000000000:=fun b=>by
    cases b<;>simp<;>omega
   have t:∀b:Bool,dl (if b=true then -((1:Nat):Int) else((1:Nat):Int)).natAbs≤40000000000:=fun b=>by
    have:dl 1≤1:=aDd (by decide);cases b<;>simp<;>omega
   refine Ev.bind (aKG (hsz _) (t _)) ?_;rw[aHa];refine Ev.bind s4 (Ev.bind U ?_);by_cases e:y<0
   ·rw[dT e];rw[show(y.natAbs:Int)=-y by omega,show(x.natAbs:Int)=-x by omega,Int.neg_mul]at c1;obtain⟨f,h⟩:=aFc (x:=x) (y:=y) (a:=Q+1) (b:=y.natAbs-R) j (by rw[Int.mul_add];omega) (by omega) (by omega);rw[f,h];have:(((y.natAbs:Int)-R).toNat:Int)=y.natAbs-R:=by omega
    rw[this];exact Ev.pure _
   ·rw[dF e];rw[show(y.natAbs:Int)=y by omega,show(x.natAbs:Int)=-x by omega]at c1;obtain⟨f,h⟩:=aFc (x:=x) (y:=y) (a:=-(Q+1)) (b:=y.natAbs-R) j (by rw[Int.mul_neg,Int.mul_add];omega) (by omega) (by omega);rw[f,h];have:(((y.natAbs:Int)-R).toNat:Int)=y.natAbs-R:=by omega
    rw[this,Int.neg_add];exact Ev.pure _
 ·have z:decide (x<0)=false:=dF k;simp only[z,bG];by_cases e:y<0
  ·rw[dT e];rw[show(y.natAbs:Int)=-y by omega,show(x.natAbs:Int)=x by omega,Int.neg_mul]at c1;obtain⟨f,h⟩:=aFc (x:=x) (y:=y) (a:=-Q) (b:=R) j (by rw[Int.mul_neg];omega) (by omega) (by omega);rw[f,h];exact Ev.pure _
  ·rw[dF e];rw[show(y.natAbs:Int)=y by omega,show(x.natAbs:Int)=x by omega]at c1;obtain⟨f,h⟩:=aFc (x:=x) (y:=y) (a:=Q) (b:=R) j (by omega) (by omega) (by omega);rw[f,h];exact Ev.pure _
theorem aOZ(K:Nat):∀(n m k:Nat),n<k→iS K k (m:Int) (n:Int)=some ((Nat.gcd m n:Nat):Int):=by
 intro n
 induction n using Nat.strongRecOn with
 |_ n ih=>
  intro m k e;obtain⟨f,rfl,_⟩:=aT e;by_cases h:n=0
  ·subst h;simp[iS]
  ·have j:decide (0<(n:Int))=true:=dT (by omega);have q:chr (m:Int) (n:Int)=some ((m%n:Nat):Int):=by rw[vM (by omega) (by omega)];simp
   simp only[iS,j,bL,q,oB];have hlt:=Nat.mod_lt m (show 0<n by omega);rw[ih (m%n) hlt n f (by omega)];congr 2;rw[Nat.gcd_comm m n,Nat.gcd_rec n m,Nat.gcd_comm]
theorem aQz:∀(n m:Nat),dl m≤30000000000→dl n≤30000000000→∃r,xG (fun K k=>f7 K k (Z (n:Int)) (Z (m:Int))) r∧(r=.ret (Z (Nat.gcd m n:Nat))∨r=.go (Z (Nat.gcd m n:Nat))):=by
 intro n
 induction n using Nat.strongRecOn with
 |_ n ih=>
  intro m hm j;by_cases h:n=0
  ·subst h;refine⟨.go (Z m),xG.of 1 fun K k u=>?_,.inr (by simp)⟩;obtain⟨G,rfl,_⟩:=aT (n:=0) u;have e:decide (0<((Z ((0:Nat):Int)).d.length:Int))=false:=by rw[t5,show((0:Nat):Int).natAbs=0 from rfl,yZ];rfl
   simp only[f7,e,bG]
  ·have q:decide (0<((cC n).length:Int))=true:=dT (by
    show(0:Int)<dl n;have I:dl n≠0:=by rw[Ne,xM];exact h
    omega)
   have hlt:=Nat.mod_lt m (show 0<n by omega);obtain⟨r,s,t⟩:=ih (m%n) hlt n j (Nat.le_trans (aIp _ _) hm);have z:Nat.gcd n (m%n)=Nat.gcd m n:=by rw[Nat.gcd_comm m n,Nat.gcd_rec n m,Nat.gcd_comm]
   rw[z]at t;have hdiv:=aGz (x:=(m:Int)) (y:=(n:Int)) (by omega) (by simpa using hm) (by simpa using j);rw[←Int.natCast_emod]at hdiv;by_cases hs:dl m≤2∧dl n≤2
   ·refine⟨.ret (Z (Nat.gcd m n:Nat)),xG.step ?_,.inl rfl⟩;have J:=aAg (n:=m) hs.1;have b2:=aAg (n:=n) hs.2;have hgl:Nat.gcd m n≤n:=Nat.gcd_le_right m (by omega);have f1:decide (((cC m).length:Int)≤2)=true:=dT (by have:(cC m).length=dl m:=rfl;omega);have f2:decide (((cC n).length:Int)≤2)=true:=dT (by have:(cC n).length=dl n:=rfl;omega);simp only[f7,q,f1,f2,bL,aHa,aCS (cG m) hs.1,aCS (cG n) hs.2,fC,oB];refine xG.bind (x:=((Nat.gcd m n:Nat):Int)) (f:=fun K=>iS K K (m:Int) (n:Int)) ⟨n+1,fun K L=>aOZ K n m K (by omega)⟩ ?_;simp only[rL];exact xG.bind (aBO (by omega)) (xG.of 0 fun _ _ _=>rfl)
   ·refine⟨r,xG.step ?_,t⟩;simp only[f7,q,bL,aHa];by_cases F:dl m≤2
    ·have f1:decide (((cC m).length:Int)≤2)=true:=dT (by have:(cC m).length=dl m:=rfl;omega);have f2:decide (((cC n).length:Int)≤2)=false:=dF (by have:(cC n).length=dl n:=rfl;omega);simp only[f1,f2,bL,bG];exact xG.bind hdiv s
    ·have f1:decide (((cC m).length:Int)≤2)=false:=dF (by have:(cC m).length=dl m:=rfl;omega);simp only[f1,bG];exact xG.bind hdiv s
theorem aQe{x y:Int}(h:dl x.natAbs≤30000000000)(j:dl y.natAbs≤30000000000):Ev (fun K=>s7 K (Z x) (Z y)) (Z (Int.gcd x y:Nat)):=by
 unfold s7;have e:=k7 false (cG x.natAbs) (by show dl _≤_;omega);have f:=k7 false (cG y.natAbs) (by show dl _≤_;omega);rw[fC,pV,Int.toNat_natCast]at e f;simp only[Z_d];refine Ev.bind e (Ev.bind f ?_);obtain⟨r,k,q⟩:=aQz y.natAbs x.natAbs h j;refine Ev.bind k.ev ?_;rcases q with rfl|rfl
 ·exact Ev.pure _
 ·exact Ev.pure _
theorem aJF(x y:aC)(F:x.d.length=y.d.length)(G:x.d.length≤9000000000000):∀(t i:Nat),i+t=x.d.length→∀K k,t<k→iM K x y k (i:Int)=some (if x.d.drop i=y.d.drop i then .go () else .ret false)
 |0,i,I,K,k,j=>by
  obtain⟨q,rfl,_⟩:=aT j;have:i=x.d.length:=by omega
  subst this;simp only[iM,dF (show¬(x.d.length:Int)<(x.d.length:Int) by omega),bG];rw[if_pos];rw[List.drop_of_length_le (Nat.le_refl _),List.drop_of_length_le (by omega)]
 |t+1,i,I,K,k,j=>by
  obtain⟨q,rfl,_⟩:=aT j;have s:decide ((i:Int)<(x.d.length:Int))=true:=dT (by omega);have u:=cZ (xs:=x.d) (i:=i) (by omega);have z:=cZ (xs:=y.d) (i:=i) (by omega);have J:aV ((i:Int)+1)=some ((i+1:Nat):Int):=xH (m:=0) (by omega) (by omega);have dx:x.d.drop i=x.d.getD i 0::x.d.drop (i+1):=by
   rw[List.drop_eq_getElem_cons (by omega)];simp[List.getD_eq_getElem?_getD,show i<x.d.length by omega]
  have dy:y.d.drop i=y.d.getD i 0::y.d.drop (i+1):=by
   rw[List.drop_eq_getElem_cons (by omega)];simp[List.getD_eq_getElem?_getD,show i<y.d.length by omega]
  by_cases h:x.d.getD i 0=y.d.getD i 0
  ·have ih:=aJF x y F G t (i+1) (by omega) K q (by omega);simp only[iM,s,u,z,J,nF h,bL,bG,oB,ih];by_cases f:x.d.drop (i+1)=y.d.drop (i+1)
   ·rw[if_pos f,if_pos (by rw[dx,dy,h,f])]
   ·rw[if_neg f,if_neg (by rw[dx,dy];intro e;exact f (List.cons.inj e).2)]
  ·simp only[iM,s,u,z,nT h,bL,oB];rw[if_neg (by rw[dx,dy];intro e;exact h (List.cons.inj e).1)]
theorem aHR(x y:aC)(t:x.d.length≤9000000000000):Ev (fun K=>oN K x y) (decide (x=y)):=by
 refine⟨x.d.length+1,fun K u=>?_⟩;unfold oN;by_cases j:x.neg=y.neg
 ·have f:(x.neg != y.neg)=false:=by rw[j];exact bne_self_eq_false _
  by_cases s:x.d.length=y.d.length
  ·have k:((x.d.length:Int) != (y.d.length:Int))=false:=nF (by omega);have h:=aJF x y s t x.d.length 0 (by omega) K K (by omega);simp only[Int.natCast_zero,List.drop_zero]at h;simp only[f,k,bG,h,oB];by_cases q:x.d=y.d
   ·rw[if_pos q,dT (by cases x;cases y;simp_all)];rfl
   ·rw[if_neg q,dF (by intro e;subst e;exact q rfl)]
  ·have k:((x.d.length:Int) != (y.d.length:Int))=true:=nT (by omega);simp only[f,k,bG,bL];rw[dF (by intro e;subst e;exact s rfl)]
 ·have f:(x.neg != y.neg)=true:=bne_iff_ne.2 j;simp only[f,bL];rw[dF (by intro e;subst e;exact j rfl)]
end Go.Proofs.YtolfcbpgmfbgmaaGreat
set_option linter.unusedVariables false
set_option maxRecDepth 100000
namespace Go.Proofs.YtolfcbpgmfbgmaaGreat
instance tyA42:TyA Tryz.prog 42 4:=mkA Tryz.underlying42 rfl (by kernel_rfl)
theorem tyB42:TyB Tryz.prog 42 [(0,2),(2,2)] (([pB false]++[pS cI ([]:List Int)])++([pB false]++[pS cI ([]:List Int)])):=mkB (z:=.agg #[.bool false,.slice none 0 0,.bool false,.slice none 0 0]) (by kernel_rfl) Tryz.underlying42 (by kernel_rfl) (fun M=>bJ.app (bJ.app (show bJ M [pB false] [.bool false] from zU1) (show bJ M [pS cI ([]:List Int)] [.slice none 0 0] from⟨eG cI M,zT⟩)) (bJ.app (show bJ M [pB false] [.bool false] from zU1) (show bJ M [pS cI ([]:List Int)] [.slice none 0 0] from⟨eG cI M,zT⟩)))
instance tyF42_0:TyF Tryz.prog 42 0 0:=mkF (ft:=40) (k:=1) Tryz.underlying42 rfl rfl rfl (by kernel_rfl)
instance tyF42_1:TyF Tryz.prog 42 1 2:=mkF (ft:=40) (k:=1) Tryz.underlying42 rfl rfl rfl (by kernel_rfl)
instance tyZ42:TyZ Tryz.prog 42 (([pB false]++[pS cI ([]:List Int)])++([pB false]++[pS cI ([]:List Int)])):=mkZ (z:=.agg #[.bool false,.slice none 0 0,.bool false,.slice none 0 0]) (k:=4) (by kernel_rfl) rfl (fun M=>bJ.app (bJ.app (show bJ M [pB false] [.bool false] from zU1) (show bJ M [pS cI ([]:List Int)] [.slice none 0 0] from⟨eG cI M,zT⟩)) (bJ.app (show bJ M [pB false] [.bool false] from zU1) (show bJ M [pS cI ([]:List Int)] [.slice none 0 0] from⟨eG cI M,zT⟩)))
def jA(K:Nat)(e:cJ):Option aC:=
 bif((e.q.d.length:Int)==0) then((iX K 1).bind fun v4=>some v4) else(some e.q)
theorem oR{K:Nat}{h:cJ}{r:aC}(f:jA K h=some r):Ct Tryz.prog 59 [.va (cJ.e h)] (.va (aC.e r)):=by
 unfold jA at f;refine aA Tryz.func59 rfl (by kernel_rfl) Tryz.ntmps59 rfl (fun w0 M0=>?_);refine aE (aI (dP rfl rfl zT (fun k=>?_)));refine aM rfl tyZ40 (fun b2=>?_);refine go ?_ ?_;refine aD f rfl (fun j f=>?_) (fun j f=>?_)
 ·obtain⟨v4,q,f⟩:=bE f nP;exact bU
 exact bU
def pN(e:aC):Option Bool:=
 bif e.neg then(some false) else(bif((e.d.length:Int) != 1) then(some false) else((bR e.d 0).bind fun v4=>some (v4==1)))
theorem aAr{h:aC}{r:Bool}(f:pN h=some r):Ct Tryz.prog 97 [.va (aC.e h)] (.vc (pB r)):=by
 unfold pN at f;refine aA Tryz.func97 rfl (by kernel_rfl) Tryz.ntmps97 rfl (fun w0 M0=>?_);refine aE (aI (dP rfl rfl zT (fun q=>?_)));refine go ?_ ?_;refine dK f (fun j f=>?_) (fun j f=>?_)
 ·refine go ?_ ?_;refine kA rfl ?_;exact bU
 refine go ?_ ?_;refine aD f rfl (fun k f=>?_) (fun k f=>?_)
 ·exact bU
 obtain⟨v4,s,f⟩:=aR f;exact bU
def jO(K:Nat)(h:aC)(a1:aC):Option cJ:=
 bif((a1.d.length:Int)==0) then(some (⟨(⟨false,([]:List Int)⟩:aC),(⟨false,([]:List Int)⟩:aC)⟩:cJ)) else(bif((h.d.length:Int)==0) then(some (⟨(⟨false,([]:List Int)⟩:aC),(⟨false,([]:List Int)⟩:aC)⟩:cJ)) else((s7 K h a1).bind fun v6=>(lW K h v6).bind fun j=>(lW K a1 v6).bind fun e=>bif e.1.neg then((nC K j.1).bind fun f=>(nC K e.1).bind fun v20=>(pN v20).bind fun k=>bif k then(some (⟨f,(⟨false,([]:List Int)⟩:aC)⟩:cJ)) else(some (⟨f,v20⟩:cJ))) else((pN e.1).bind fun q=>bif q then(some (⟨j.1,(⟨false,([]:List Int)⟩:aC)⟩:cJ)) else(some (⟨j.1,e.1⟩:cJ)))))
theorem wK{K:Nat}{t:aC}{a1:aC}{r:cJ}(f:jO K t a1=some r):Ct Tryz.prog 60 [.va (aC.e t),.va (aC.e a1)] (.va (cJ.e r)):=by
 unfold jO at f;refine aA Tryz.func60 rfl (by kernel_rfl) Tryz.ntmps60 rfl (fun w0 M0=>?_);refine aE (aI (dP rfl rfl zT (fun b1=>?_)));refine dP rfl rfl zT (fun b2=>?_);refine aM rfl tyZ42 (fun b3=>?_);refine go ?_ ?_;refine dK f (fun x f=>?_) (fun x f=>?_)
 ·refine go ?_ ?_;refine kA rfl ?_;refine aE (aI (aG (iV (is:=[]) (xs:=[]) (ps:=[]) rfl tyB42 rfl rfl zT rfl) zT ?_));exact bU
 refine go ?_ ?_;refine aD f rfl (fun y f=>?_) (fun y f=>?_)
 ·refine aE (aI (aG (iV (is:=[]) (xs:=[]) (ps:=[]) rfl tyB42 rfl rfl zT rfl) zT ?_));exact bU
 obtain⟨v6,h7,f⟩:=bE f aDD;refine go ?_ ?_;refine aM rfl tyZ40 (fun b8=>?_);obtain⟨u,z,f⟩:=bE f uF;refine go ?_ ?_;refine aM rfl tyZ40 (fun F=>?_);refine aM rfl tyZ40 (fun G=>?_);obtain⟨j,I,f⟩:=bE f uF;refine go ?_ ?_;refine aM rfl tyZ40 (fun J=>?_);refine aM rfl tyZ40 (fun L=>?_);refine go ?_ ?_;refine aD f rfl (fun k f=>?_) (fun k f=>?_)
 ·obtain⟨h,O,f⟩:=bE f w5;obtain⟨v20,U,f⟩:=bE f w5;obtain⟨V,X,f⟩:=bE f aAr;refine go ?_ ?_;refine aD f rfl (fun q f=>?_) (fun q f=>?_)
  ·refine go ?_ ?_;refine aG (iV (is:=[0]) (xs:=[.tmp 44]) (ps:=[.va (aC.e h)]) rfl tyB42 rfl rfl ⟨zT,zT⟩ rfl) zU1 ?_;exact bU
  refine go ?_ ?_;refine aG (iV (is:=[0,1]) (xs:=[.tmp 46,.tmp 47]) (ps:=[.va (aC.e h),.va (aC.e v20)]) rfl tyB42 rfl rfl ⟨zT,zT,zT⟩ rfl) zU2 ?_;exact bU
 obtain⟨Y,h26,f⟩:=bE f aAr;refine go ?_ ?_;refine aD f rfl (fun s f=>?_) (fun s f=>?_)
 ·refine go ?_ ?_;refine aG (iV (is:=[0]) (xs:=[.tmp 44]) (ps:=[.va (aC.e u.1)]) rfl tyB42 rfl rfl ⟨zT,zT⟩ rfl) zU1 ?_;exact bU
 refine go ?_ ?_;refine aG (iV (is:=[0,1]) (xs:=[.tmp 46,.tmp 47]) (ps:=[.va (aC.e u.1),.va (aC.e j.1)]) rfl tyB42 rfl rfl ⟨zT,zT,zT⟩ rfl) zU2 ?_;exact bU
abbrev aEi:Nat:=19
def u6(K:Nat)(e:cJ)(a1:cJ):Option cJ:=
 (jA K a1).bind fun v6=>(jC K e.p v6).bind fun t=>(jA K e).bind fun f=>(jC K a1.p f).bind fun h=>(p6 K t h).bind fun j=>(jA K e).bind fun v20=>(jA K a1).bind fun k=>(jC K v20 k).bind fun q=>(jO K j q).bind fun s=>some s
theorem aDP{K:Nat}{h:cJ}{a1:cJ}{r:cJ}(f:u6 K h a1=some r):Ct Tryz.prog 19 [.va (cJ.e h),.va (cJ.e a1)] (.va (cJ.e r)):=by
 unfold u6 at f;refine aA Tryz.func19 rfl (by kernel_rfl) Tryz.ntmps19 rfl (fun w0 M0=>?_);refine aE (aI (dP rfl rfl zT (fun Y=>?_)));refine dP rfl rfl zT (fun b2=>?_);refine aM rfl tyZ42 (fun b3=>?_);obtain⟨v6,h7,f⟩:=bE f oR;obtain⟨v8,h9,f⟩:=bE f oU;refine go ?_ ?_;refine dr [0,1,0,4,15,0,63] 6 1 ?_ (fun q G4=>?_);obtain⟨s,t,f⟩:=bE f oR;obtain⟨u,x,f⟩:=bE f oU;refine go ?_ ?_;refine dr [0,1,0,4,15,0,63] 6 1 ?_ (fun j y=>?_);obtain⟨z,F,f⟩:=bE f aAp;obtain⟨v20,G,f⟩:=bE f oR;obtain⟨I,J,f⟩:=bE f oR;obtain⟨L,O,f⟩:=bE f oU;obtain⟨U,V,f⟩:=bE f wK;refine go ?_ ?_;refine dr [0,0,3,0,15,0,63,127,255,511] 9 1 ?_ (fun k X=>?_);exact bU
abbrev aE8:Nat:=20
def vU(K:Nat)(e:Int)(a1:Int):Option cJ:=
 (iX K e).bind fun v2=>(iX K a1).bind fun v4=>(jO K v2 v4).bind fun v6=>some v6
theorem aEE{K:Nat}{h:Int}{a1:Int}{r:cJ}(f:vU K h a1=some r):Ct Tryz.prog 20 [vI h,vI a1] (.va (cJ.e r)):=by
 unfold vU at f;refine aA Tryz.func20 rfl (by kernel_rfl) Tryz.ntmps20 rfl (fun w0 M0=>?_);refine aE (aI (aM rfl tyZ42 (fun j=>?_)));obtain⟨v2,k,f⟩:=bE f nP;obtain⟨v4,q,f⟩:=bE f nP;obtain⟨v6,s,f⟩:=bE f wK;exact bU
abbrev aEx:Nat:=41
def u5(K:Nat)(e:cJ):Option cJ:=
 (nC K e.p).bind fun v5=>some (⟨v5,e.q⟩:cJ)
theorem aDt{K:Nat}{f:cJ}{r:cJ}(h:u5 K f=some r):Ct Tryz.prog 41 [.va (cJ.e f)] (.va (cJ.e r)):=by
 unfold u5 at h;refine aA Tryz.func41 rfl (by kernel_rfl) Tryz.ntmps41 rfl (fun w0 M0=>?_);refine aE (aI (dP rfl rfl zT (fun j=>?_)));refine aM rfl tyZ42 (fun b2=>?_);obtain⟨v5,s,h⟩:=bE h w5;refine go ?_ ?_;refine kO [0,1,3,0,8,31,63] 6 1 [.v (.vc (pP (some j) 0)),.v (.va (aC.e f.p)),.v (.va (aC.e v5)),.v (.vc (pP (some j) 2)),.v (.va (aC.e f.q)),.v (.va ((aC.e v5)++(aC.e f.q)))] bC ⟨d0 (iG (off:=0) (k:=0) rfl tyF42_0) zU1,d0 (gM 1 2 rfl rfl rfl rfl (.agg tyA40)) zU1,d0 (bO rfl s rfl) zU1,d0 (iG (off:=0) (k:=2) rfl tyF42_1) zU1,d0 (gM 1 2 rfl rfl rfl rfl (.agg tyA40)) zU1,d0 (iV (is:=[0,1]) (xs:=[.tmp 5,.tmp 7]) (ps:=[.va (aC.e v5),.va (aC.e f.q)]) rfl tyB42 rfl rfl ⟨zT,zT,zT⟩ rfl) zU2,zT⟩ (fun t u=>?_);exact bU
def uH(e:aC):Option Bool:=
 bif(!e.neg) then(bif((e.d.length:Int)==1) then((bR e.d 0).bind fun v4=>some (v4==1)) else(some false)) else(some false)
theorem y4{h:aC}{r:Bool}(f:uH h=some r):Ct Tryz.prog 132 [.va (aC.e h)] (.vc (pB r)):=by
 unfold uH at f;refine aA Tryz.func132 rfl (by kernel_rfl) Tryz.ntmps132 rfl (fun w0 M0=>?_);refine aE (aI (dP rfl rfl zT (fun q=>?_)));refine go ?_ ?_;refine dK f (fun j f=>?_) (fun j f=>?_)
 ·refine go ?_ ?_;refine dK f (fun k f=>?_) (fun k f=>?_)
  ·obtain⟨v4,s,f⟩:=aR f;exact bU
  exact bU
 exact bU
def o6(e:aC)(a1:aC):Option cJ:=
 bif a1.neg then((tG e).bind fun h=>(tG a1).bind fun j=>(uH j).bind fun v11=>bif v11 then(some (⟨h,(⟨false,([]:List Int)⟩:aC)⟩:cJ)) else(some (⟨h,j⟩:cJ))) else((uH a1).bind fun f=>bif f then(some (⟨e,(⟨false,([]:List Int)⟩:aC)⟩:cJ)) else(some (⟨e,a1⟩:cJ)))
theorem wT{h:aC}{a1:aC}{r:cJ}(f:o6 h a1=some r):Ct Tryz.prog 125 [.va (aC.e h),.va (aC.e a1)] (.va (cJ.e r)):=by
 unfold o6 at f;refine aA Tryz.func125 rfl (by kernel_rfl) Tryz.ntmps125 rfl (fun w0 M0=>?_);refine aE (aI (dP rfl rfl zT (fun G=>?_)));refine dP rfl rfl zT (fun b2=>?_);refine aM rfl tyZ42 (fun I=>?_);refine go ?_ ?_;refine aD f rfl (fun s f=>?_) (fun s f=>?_)
 ·obtain⟨q,J,f⟩:=bE f aAj;obtain⟨t,u,f⟩:=bE f aAj;refine dr [0,1,0,7,15,31] 4 2 ?_ (fun x K=>?_);obtain⟨v11,y,f⟩:=bE f y4;refine go ?_ ?_;refine aD f rfl (fun j f=>?_) (fun j f=>?_)
  ·refine go ?_ ?_;refine aG (iV (is:=[0]) (xs:=[.tmp 13]) (ps:=[.va (aC.e q)]) rfl tyB42 rfl rfl ⟨zT,zT⟩ rfl) zU1 ?_;exact bU
  refine go ?_ ?_;refine aG (iV (is:=[0,1]) (xs:=[.tmp 15,.tmp 16]) (ps:=[.va (aC.e q),.va (aC.e t)]) rfl tyB42 rfl rfl ⟨zT,zT,zT⟩ rfl) zU2 ?_;exact bU
 obtain⟨z,F,f⟩:=bE f y4;refine go ?_ ?_;refine aD f rfl (fun k f=>?_) (fun k f=>?_)
 ·refine go ?_ ?_;refine aG (iV (is:=[0]) (xs:=[.tmp 13]) (ps:=[.va (aC.e h)]) rfl tyB42 rfl rfl ⟨zT,zT⟩ rfl) zU1 ?_;exact bU
 refine go ?_ ?_;refine aG (iV (is:=[0,1]) (xs:=[.tmp 15,.tmp 16]) (ps:=[.va (aC.e h),.va (aC.e a1)]) rfl tyB42 rfl rfl ⟨zT,zT,zT⟩ rfl) zU2 ?_;exact bU
def k6(K:Nat)(e:aC)(a1:aC):Option cJ:=
 bif((a1.d.length:Int)==0) then(some (⟨(⟨false,([]:List Int)⟩:aC),(⟨false,([]:List Int)⟩:aC)⟩:cJ)) else(bif((e.d.length:Int)==0) then(some (⟨(⟨false,([]:List Int)⟩:aC),(⟨false,([]:List Int)⟩:aC)⟩:cJ)) else((uU K e a1).bind fun v6=>(uH v6).bind fun q=>bif(!q) then((uT K e v6).bind fun f=>(uT K a1 v6).bind fun h=>(o6 f.1 h.1).bind fun j=>some j) else((o6 e a1).bind fun k=>some k)))
theorem vF{K:Nat}{j:aC}{a1:aC}{r:cJ}(f:k6 K j a1=some r):Ct Tryz.prog 85 [.va (aC.e j),.va (aC.e a1)] (.va (cJ.e r)):=by
 unfold k6 at f;refine aA Tryz.func85 rfl (by kernel_rfl) Tryz.ntmps85 rfl (fun w0 M0=>?_);refine aE (aI (dP rfl rfl zT (fun J=>?_)));refine dP rfl rfl zT (fun b2=>?_);refine aM rfl tyZ42 (fun L=>?_);refine go ?_ ?_;refine dK f (fun k f=>?_) (fun k f=>?_)
 ·refine go ?_ ?_;refine kA rfl ?_;refine aE (aI (aG (iV (is:=[]) (xs:=[]) (ps:=[]) rfl tyB42 rfl rfl zT rfl) zT ?_));exact bU
 refine go ?_ ?_;refine aD f rfl (fun q f=>?_) (fun q f=>?_)
 ·refine aE (aI (aG (iV (is:=[]) (xs:=[]) (ps:=[]) rfl tyB42 rfl rfl zT rfl) zT ?_));exact bU
 obtain⟨v6,O,f⟩:=bE f aB3;refine go ?_ ?_;refine aM rfl tyZ40 (fun U=>?_);obtain⟨V,s,f⟩:=bE f y4;refine go ?_ ?_;refine aD f rfl (fun h f=>?_) (fun h f=>?_)
 ·obtain⟨t,u,f⟩:=bE f aB6;obtain⟨x,y,f⟩:=bE f aB6;obtain⟨z,F,f⟩:=bE f wT;exact bU
 obtain⟨G,I,f⟩:=bE f wT;exact bU
abbrev aQL:Nat:=47
def aEI(K:Nat)(e:Int)(a1:Int):Option cJ:=
 (nK e).bind fun v2=>(nK a1).bind fun v4=>(k6 K v2 v4).bind fun v6=>some v6
theorem aNK{K:Nat}{h:Int}{a1:Int}{r:cJ}(f:aEI K h a1=some r):Ct Tryz.prog 47 [vI h,vI a1] (.va (cJ.e r)):=by
 unfold aEI at f;refine aA Tryz.func47 rfl (by kernel_rfl) Tryz.ntmps47 rfl (fun w0 M0=>?_);refine aE (aI (aM rfl tyZ42 (fun j=>?_)));obtain⟨v2,k,f⟩:=bE f tD;obtain⟨v4,q,f⟩:=bE f tD;obtain⟨v6,s,f⟩:=bE f vF;exact bU
abbrev aK4:Nat:=50
def yQ(e:cJ):Option Int:=
 (vC e.p).bind fun v2=>some v2
theorem aCr{h:cJ}{r:Int}(f:yQ h=some r):Ct Tryz.prog 50 [.va (cJ.e h)] (vI r):=by
 unfold yQ at f;refine aA Tryz.func50 rfl (by kernel_rfl) Tryz.ntmps50 rfl (fun w0 M0=>?_);refine aE (aI (dP rfl rfl zT (fun j=>?_)));obtain⟨v2,k,f⟩:=bE f aFE;exact bU
abbrev aDC:Nat:=55
def t7(K:Nat)(e:cJ)(a1:cJ):Option Bool:=
 (oN K e.p a1.p).bind fun f=>bif f then((oN K e.q a1.q).bind fun v6=>some v6) else(some false)
theorem aC8{K:Nat}{h:cJ}{a1:cJ}{r:Bool}(f:t7 K h a1=some r):Ct Tryz.prog 55 [.va (cJ.e h),.va (cJ.e a1)] (.vc (pB r)):=by
 unfold t7 at f;refine aA Tryz.func55 rfl (by kernel_rfl) Tryz.ntmps55 rfl (fun w0 M0=>?_);refine aE (aI (dP rfl rfl zT (fun k=>?_)));refine dP rfl rfl zT (fun b2=>?_);obtain⟨q,s,f⟩:=bE f zR;refine go ?_ ?_;refine dK f (fun j f=>?_) (fun j f=>?_)
 ·obtain⟨v6,t,f⟩:=bE f zR;exact bU
 exact bU
abbrev aNj:Nat:=69
def aBq(e:cJ):Option cJ:=
 (tG e.p).bind fun v5=>some (⟨v5,e.q⟩:cJ)
theorem aGx{f:cJ}{r:cJ}(h:aBq f=some r):Ct Tryz.prog 69 [.va (cJ.e f)] (.va (cJ.e r)):=by
 unfold aBq at h;refine aA Tryz.func69 rfl (by kernel_rfl) Tryz.ntmps69 rfl (fun w0 M0=>?_);refine aE (aI (dP rfl rfl zT (fun j=>?_)));refine aM rfl tyZ42 (fun b2=>?_);obtain⟨v5,s,h⟩:=bE h aAj;refine go ?_ ?_;refine kO [0,1,3,0,8,31,63] 6 1 [.v (.vc (pP (some j) 0)),.v (.va (aC.e f.p)),.v (.va (aC.e v5)),.v (.vc (pP (some j) 2)),.v (.va (aC.e f.q)),.v (.va ((aC.e v5)++(aC.e f.q)))] bC ⟨d0 (iG (off:=0) (k:=0) rfl tyF42_0) zU1,d0 (gM 1 2 rfl rfl rfl rfl (.agg tyA40)) zU1,d0 (bO rfl s rfl) zU1,d0 (iG (off:=0) (k:=2) rfl tyF42_1) zU1,d0 (gM 1 2 rfl rfl rfl rfl (.agg tyA40)) zU1,d0 (iV (is:=[0,1]) (xs:=[.tmp 5,.tmp 7]) (ps:=[.va (aC.e v5),.va (aC.e f.q)]) rfl tyB42 rfl rfl ⟨zT,zT,zT⟩ rfl) zU2,zT⟩ (fun t u=>?_);exact bU
def aCK:Option aC:=
 (nK 1).bind fun v2=>some v2
theorem aLc{r:aC}(f:aCK=some r):Ct Tryz.prog 159 [] (.va (aC.e r)):=by
 unfold aCK at f;refine aA Tryz.func159 rfl (by kernel_rfl) Tryz.ntmps159 rfl (fun w0 M0=>?_);refine aE (aI (aM rfl tyZ40 (fun h=>?_)));obtain⟨v2,j,f⟩:=bE f tD;exact bU
def fL(e:cJ):Option aC:=
 bif((e.q.d.length:Int)==0) then((aCK).bind fun v4=>some v4) else(some e.q)
theorem mL{h:cJ}{r:aC}(f:fL h=some r):Ct Tryz.prog 123 [.va (cJ.e h)] (.va (aC.e r)):=by
 unfold fL at f;refine aA Tryz.func123 rfl (by kernel_rfl) Tryz.ntmps123 rfl (fun w0 M0=>?_);refine aE (aI (dP rfl rfl zT (fun k=>?_)));refine aM rfl tyZ40 (fun b2=>?_);refine go ?_ ?_;refine aD f rfl (fun j f=>?_) (fun j f=>?_)
 ·obtain⟨v4,q,f⟩:=bE f aLc;exact bU
 exact bU
abbrev aNI:Nat:=71
def aA2(K:Nat)(e:cJ)(a1:cJ):Option cJ:=
 bif((e.q.d.length:Int)==0) then(bif((a1.q.d.length:Int)==0) then((o9 K e.p a1.p).bind fun v6=>some (⟨v6,(⟨false,([]:List Int)⟩:aC)⟩:cJ)) else(bif((e.p.d.length:Int)==0) then(some a1) else(bif((a1.p.d.length:Int)==0) then(some e) else((fL e).bind fun f=>(fL a1).bind fun h=>(cA K e.p h).bind fun s=>(cA K a1.p f).bind fun v20=>(o9 K s v20).bind fun t=>(cA K f h).bind fun u=>(k6 K t u).bind fun x=>some x)))) else(bif((e.p.d.length:Int)==0) then(some a1) else(bif((a1.p.d.length:Int)==0) then(some e) else((fL e).bind fun j=>(fL a1).bind fun k=>(cA K e.p k).bind fun y=>(cA K a1.p j).bind fun z=>(o9 K y z).bind fun F=>(cA K j k).bind fun G=>(k6 K F G).bind fun I=>some I)))
theorem aFZ{K:Nat}{k:cJ}{a1:cJ}{r:cJ}(f:aA2 K k a1=some r):Ct Tryz.prog 71 [.va (cJ.e k),.va (cJ.e a1)] (.va (cJ.e r)):=by
 unfold aA2 at f;refine aA Tryz.func71 rfl (by kernel_rfl) Tryz.ntmps71 rfl (fun w0 M0=>?_);refine aE (aI (dP rfl rfl zT (fun b1=>?_)));refine dP rfl rfl zT (fun b2=>?_);refine aM rfl tyZ42 (fun b3=>?_);refine go ?_ ?_;refine aJ (go ?_ ?_);refine dK f (fun x f=>?_) (fun x f=>?_)
 ·refine go ?_ ?_;refine aD f rfl (fun y f=>?_) (fun y f=>?_)
  ·obtain⟨v6,h7,f⟩:=bE f aAu;refine go ?_ ?_;refine aG (iV (is:=[0]) (xs:=[.tmp 24]) (ps:=[.va (aC.e v6)]) rfl tyB42 rfl rfl ⟨zT,zT⟩ rfl) zU1 ?_;exact bU
  refine go ?_ ?_;refine aD f rfl (fun z f=>?_) (fun z f=>?_)
  ·exact bU
  refine go ?_ ?_;refine aD f rfl (fun F f=>?_) (fun F f=>?_)
  ·exact bU
  obtain⟨G,I,f⟩:=bE f mL;obtain⟨J,L,f⟩:=bE f mL;refine go ?_ ?_;refine dr [0,1,0,7,0,0,63,127] 6 2 ?_ (fun q O=>?_);obtain⟨U,V,f⟩:=bE f iU;obtain⟨v20,X,f⟩:=bE f iU;obtain⟨Y,h23,f⟩:=bE f aAu;obtain⟨v24,h25,f⟩:=bE f iU;obtain⟨v26,h27,f⟩:=bE f vF;refine go ?_ ?_;refine dr [0,1,0,7,0,16,0,127,255,0,0,2047,4095,8191] 13 1 ?_ (fun s G16=>?_);exact bU
 refine go ?_ ?_;refine vN rfl ?_;refine go ?_ ?_;refine aD f rfl (fun h f=>?_) (fun h f=>?_)
 ·exact bU
 refine go ?_ ?_;refine aD f rfl (fun j f=>?_) (fun j f=>?_)
 ·exact bU
 obtain⟨v32,h33,f⟩:=bE f mL;obtain⟨v34,h35,f⟩:=bE f mL;refine go ?_ ?_;refine dr [0,1,0,7,0,0,63,127] 6 2 ?_ (fun t G30=>?_);obtain⟨v38,h39,f⟩:=bE f iU;obtain⟨v40,h41,f⟩:=bE f iU;obtain⟨v42,h43,f⟩:=bE f aAu;obtain⟨v44,h45,f⟩:=bE f iU;obtain⟨v46,h47,f⟩:=bE f vF;refine go ?_ ?_;refine dr [0,1,0,7,0,16,0,127,255,0,0,2047,4095,8191] 13 1 ?_ (fun u G36=>?_);exact bU
abbrev aNQ:Nat:=72
def aBt(K:Nat)(e:cJ)(a1:cJ):Option cJ:=
 bif((e.p.d.length:Int)==0) then(some (⟨(⟨false,([]:List Int)⟩:aC),(⟨false,([]:List Int)⟩:aC)⟩:cJ)) else(bif((a1.p.d.length:Int)==0) then(some (⟨(⟨false,([]:List Int)⟩:aC),(⟨false,([]:List Int)⟩:aC)⟩:cJ)) else(bif((e.q.d.length:Int)==0) then(bif((a1.q.d.length:Int)==0) then((cA K e.p a1.p).bind fun V=>some (⟨V,(⟨false,([]:List Int)⟩:aC)⟩:cJ)) else((fL a1).bind fun s=>(k6 K e.p s).bind fun f=>(fL e).bind fun t=>(k6 K a1.p t).bind fun h=>(cA K f.p h.p).bind fun u=>(fL f).bind fun x=>(fL h).bind fun y=>(cA K x y).bind fun z=>(o6 u z).bind fun v30=>some v30)) else((fL a1).bind fun F=>(k6 K e.p F).bind fun j=>(fL e).bind fun G=>(k6 K a1.p G).bind fun k=>(cA K j.p k.p).bind fun I=>(fL j).bind fun J=>(fL k).bind fun L=>(cA K J L).bind fun O=>(o6 I O).bind fun U=>some U)))
theorem aGP{K:Nat}{h:cJ}{a1:cJ}{r:cJ}(f:aBt K h a1=some r):Ct Tryz.prog 72 [.va (cJ.e h),.va (cJ.e a1)] (.va (cJ.e r)):=by
 unfold aBt at f;refine aA Tryz.func72 rfl (by kernel_rfl) Tryz.ntmps72 rfl (fun w0 M0=>?_);refine aE (aI (dP rfl rfl zT (fun b1=>?_)));refine dP rfl rfl zT (fun b2=>?_);refine aM rfl tyZ42 (fun b3=>?_);refine go ?_ ?_;refine dK f (fun t f=>?_) (fun t f=>?_)
 ·refine go ?_ ?_;refine kA rfl ?_;refine aE (aI (aG (iV (is:=[]) (xs:=[]) (ps:=[]) rfl tyB42 rfl rfl zT rfl) zT ?_));exact bU
 refine go ?_ ?_;refine aD f rfl (fun u f=>?_) (fun u f=>?_)
 ·refine aE (aI (aG (iV (is:=[]) (xs:=[]) (ps:=[]) rfl tyB42 rfl rfl zT rfl) zT ?_));exact bU
 refine go ?_ ?_;refine dK f (fun x f=>?_) (fun x f=>?_)
 ·refine go ?_ ?_;refine aD f rfl (fun y f=>?_) (fun y f=>?_)
  ·obtain⟨z,h9,f⟩:=bE f iU;refine go ?_ ?_;refine aG (iV (is:=[0]) (xs:=[.tmp 36]) (ps:=[.va (aC.e z)]) rfl tyB42 rfl rfl ⟨zT,zT⟩ rfl) zU1 ?_;exact bU
  obtain⟨F,G,f⟩:=bE f mL;obtain⟨I,J,f⟩:=bE f vF;obtain⟨L,O,f⟩:=bE f mL;obtain⟨U,V,f⟩:=bE f vF;refine go ?_ ?_;refine dr [0,1,0,4,15,0,32,0,159,511,0,0,4095,8191] 12 2 ?_ (fun j X=>?_);obtain⟨Y,h23,f⟩:=bE f iU;obtain⟨v24,h25,f⟩:=bE f mL;obtain⟨v26,h27,f⟩:=bE f mL;obtain⟨v28,h29,f⟩:=bE f iU;obtain⟨v30,h31,f⟩:=bE f wT;refine go ?_ ?_;refine dr [0,1,0,4,15,0,63,0,255,511,1023,2047] 11 1 ?_ (fun k G20=>?_);exact bU
 refine go ?_ ?_;refine vN rfl ?_;obtain⟨v34,h35,f⟩:=bE f mL;obtain⟨v36,h37,f⟩:=bE f vF;obtain⟨v38,h39,f⟩:=bE f mL;obtain⟨v40,h41,f⟩:=bE f vF;refine go ?_ ?_;refine dr [0,1,0,4,15,0,32,0,159,511,0,0,4095,8191] 12 2 ?_ (fun q G32=>?_);obtain⟨v44,h45,f⟩:=bE f iU;obtain⟨v46,h47,f⟩:=bE f mL;obtain⟨v48,h49,f⟩:=bE f mL;obtain⟨v50,h51,f⟩:=bE f iU;obtain⟨v52,h53,f⟩:=bE f wT;refine go ?_ ?_;refine dr [0,1,0,4,15,0,63,0,255,511,1023,2047] 11 1 ?_ (fun s G42=>?_);exact bU
abbrev aEu:Nat:=74
def u7(K:Nat)(h:cJ)(a1:cJ):Option cJ:=
 (jC K h.p a1.p).bind fun v6=>(jA K h).bind fun j=>(jA K a1).bind fun v10=>(jC K j v10).bind fun e=>(jO K v6 e).bind fun f=>some f
theorem aDo{K:Nat}{h:cJ}{a1:cJ}{r:cJ}(f:u7 K h a1=some r):Ct Tryz.prog 74 [.va (cJ.e h),.va (cJ.e a1)] (.va (cJ.e r)):=by
 unfold u7 at f;refine aA Tryz.func74 rfl (by kernel_rfl) Tryz.ntmps74 rfl (fun w0 M0=>?_);refine aE (aI (dP rfl rfl zT (fun x=>?_)));refine dP rfl rfl zT (fun b2=>?_);refine aM rfl tyZ42 (fun y=>?_);obtain⟨v6,z,f⟩:=bE f oU;obtain⟨F,G,f⟩:=bE f oR;obtain⟨v10,j,f⟩:=bE f oR;obtain⟨k,q,f⟩:=bE f oU;obtain⟨s,t,f⟩:=bE f wK;refine go ?_ ?_;refine dr [0,1,0,4,15,0,63,0,255,511,1023,2047] 11 1 ?_ (fun u I=>?_);exact bU
def uV(K:Nat):Option Bool:=
 some true
def iQ(K:Nat)(f:List Int)(a1:List Int):Nat→Int→Option (LR Bool Unit)
 |0,_=>none
 |k+1,e=>bif(decide (e<(f.length:Int))) then((bR f e).bind fun j=>(bR a1 e).bind fun v11=>bif(j != v11) then(some (.ret false)) else((aV (e+1)).bind fun h=>iQ K f a1 k h)) else(some (.go ()))
def rH(K:Nat)(e:List Int)(a1:List Int):Option Bool:=
 bif((e.length:Int) != (a1.length:Int)) then(some false) else((iQ K e a1 K 0).bind fun o=>match o with| .ret r=>some r| .go _=>uV K)
theorem aC9{K:Nat}{f:List Int}{a1:List Int}{r:Bool}(e:rH K f a1=some r):Ct Tryz.prog 128 [.vc (pS cI f),.vc (pS cI a1)] (.vc (pB r)):=by
 unfold rH at e;refine aA Tryz.func128 rfl (by kernel_rfl) Tryz.ntmps128 rfl (fun w0 M0=>?_);refine go ?_ ?_;refine aD e rfl (fun x e=>?_) (fun x e=>?_)
 ·exact bU
 refine go ?_ ?_;refine aJ (aY (fun H E=>uV K=some r∧H=[]∧E=[]) ?_ (fun j=>?_))
 ·rintro _ _ ⟨e,rfl,rfl⟩;unfold uV at e;exact bU
 obtain⟨q,y,h⟩:=aR e;refine dU (fun k a w=>∃(s:Int),iQ K f a1 k s=some q∧hs _ [] [(0,.vc (pS cI f)),(1,.vc (pS cI a1)),(12,vI (f.length:Int)),(13,vI s)] a w) K (fun a w ⟨_,e,_⟩=>by cases e) (fun k a w ⟨s,e,hh⟩=>dW ?_ hh) (fun a w hh=>⟨0,y,jG [] hh⟩);rw[iQ.eq_2]at e;refine go ?_ ?_;refine aD e rfl (fun z e=>?_) (fun z e=>?_)
 ·refine go ?_ ?_;refine aJ ?_;obtain⟨L,F,v11,G,e⟩:=u9 e;refine go ?_ ?_;refine dr [0,0,3,7,0,0,48,112,255] 9 0 ?_ (fun I O=>?_);refine aX (aH (aD e rfl (fun t e=>?_) (fun t e=>?_)))
  ·exact bU
  obtain⟨u,J,e⟩:=aR e;refine go ?_ ?_;exact aF (fun a w hh=>⟨u,e,jG [] hh⟩)
 refine bF ?_;obtain rfl:=iO e;exact rU j ⟨h,rfl,rfl⟩ []
def wA(K:Nat)(e:aC)(a1:aC):Option Bool:=
 bif(e.neg==a1.neg) then((rH K e.d a1.d).bind fun v4=>some v4) else(some false)
theorem aDh{K:Nat}{h:aC}{a1:aC}{r:Bool}(f:wA K h a1=some r):Ct Tryz.prog 127 [.va (aC.e h),.va (aC.e a1)] (.vc (pB r)):=by
 unfold wA at f;refine aA Tryz.func127 rfl (by kernel_rfl) Tryz.ntmps127 rfl (fun w0 M0=>?_);refine aE (aI (dP rfl rfl zT (fun k=>?_)));refine dP rfl rfl zT (fun b2=>?_);refine go ?_ ?_;refine aG (aPG rfl Tryz.underlying4) zU2 ?_;refine gG ?_;refine dK f (fun j f=>?_) (fun j f=>?_)
 ·obtain⟨v4,q,f⟩:=bE f aC9;exact bU
 exact bU
abbrev aKU:Nat:=76
def aBH(K:Nat)(e:cJ)(a1:cJ):Option Bool:=
 (wA K e.p a1.p).bind fun f=>bif f then((wA K e.q a1.q).bind fun v6=>some v6) else(some false)
theorem aKq{K:Nat}{h:cJ}{a1:cJ}{r:Bool}(f:aBH K h a1=some r):Ct Tryz.prog 76 [.va (cJ.e h),.va (cJ.e a1)] (.vc (pB r)):=by
 unfold aBH at f;refine aA Tryz.func76 rfl (by kernel_rfl) Tryz.ntmps76 rfl (fun w0 M0=>?_);refine aE (aI (dP rfl rfl zT (fun t=>?_)));refine dP rfl rfl zT (fun b2=>?_);refine go ?_ ?_;refine aG (aP (.inr rfl)) ⟨k_F _,zT⟩ ?_;obtain⟨u,j,f⟩:=bE f aDh;refine go ?_ ?_;refine aG (aI9 (cs:=[]) (pre:=[.va (aC.e h.p),.va (aC.e a1.p)]) rfl j rfl) ⟨rfl,rfl,rfl,zT⟩ ?_;refine gG ?_;refine dK f (fun k f=>?_) (fun k f=>?_)
 ·obtain⟨v6,s,f⟩:=bE f aDh;refine go ?_ ?_;refine wS (aI9 (cs:=[]) (pre:=[.va (aC.e h.q),.va (aC.e a1.q)]) rfl s rfl) ⟨rfl,rfl,rfl,zT⟩ ?_;exact bU
 exact bU
abbrev aNt:Nat:=78
def aCG(K:Nat)(e:cJ)(a1:cJ):Option cJ:=
 bif((a1.p.d.length:Int)==0) then(some (⟨(⟨false,([]:List Int)⟩:aC),(⟨false,([]:List Int)⟩:aC)⟩:cJ)) else((fL a1).bind fun f=>(o6 f a1.p).bind fun h=>(aBt K e h).bind fun v11=>some v11)
theorem aLd{K:Nat}{h:cJ}{a1:cJ}{r:cJ}(f:aCG K h a1=some r):Ct Tryz.prog 78 [.va (cJ.e h),.va (cJ.e a1)] (.va (cJ.e r)):=by
 unfold aCG at f;refine aA Tryz.func78 rfl (by kernel_rfl) Tryz.ntmps78 rfl (fun w0 M0=>?_);refine aE (aI (dP rfl rfl zT (fun t=>?_)));refine dP rfl rfl zT (fun b2=>?_);refine aM rfl tyZ42 (fun u=>?_);refine go ?_ ?_;refine aD f rfl (fun j f=>?_) (fun j f=>?_)
 ·refine aE (aI (aG (iV (is:=[]) (xs:=[]) (ps:=[]) rfl tyB42 rfl rfl zT rfl) zT ?_));exact bU
 obtain⟨x,y,f⟩:=bE f mL;obtain⟨z,k,f⟩:=bE f wT;obtain⟨v11,q,f⟩:=bE f aGP;refine go ?_ ?_;refine dr [0,0,2,0,8,30,63,127] 7 1 ?_ (fun s F=>?_);exact bU
abbrev aNm:Nat:=79
def aCR(K:Nat)(e:cJ)(a1:cJ):Option cJ:=
 (aBq a1).bind fun v6=>(aA2 K e v6).bind fun f=>some f
theorem aLn{K:Nat}{h:cJ}{a1:cJ}{r:cJ}(f:aCR K h a1=some r):Ct Tryz.prog 79 [.va (cJ.e h),.va (cJ.e a1)] (.va (cJ.e r)):=by
 unfold aCR at f;refine aA Tryz.func79 rfl (by kernel_rfl) Tryz.ntmps79 rfl (fun w0 M0=>?_);refine aE (aI (dP rfl rfl zT (fun k=>?_)));refine dP rfl rfl zT (fun b2=>?_);refine aM rfl tyZ42 (fun q=>?_);obtain⟨v6,s,f⟩:=bE f aGx;obtain⟨t,u,f⟩:=bE f aFZ;refine go ?_ ?_;refine dr [0,0,2,7,15] 4 1 ?_ (fun j x=>?_);exact bU
abbrev aHc:Nat:=87
def yW(K:Nat)(e:cJ)(a1:cJ):Option Int:=
 (yQ e).bind fun v5=>(yQ a1).bind fun f=>bif(v5 != f) then((nK v5).bind fun v10=>(nK f).bind fun h=>(m8 K v10 h).bind fun j=>some j) else(bif(v5==0) then((nK v5).bind fun k=>(nK f).bind fun q=>(m8 K k q).bind fun s=>some s) else((fL a1).bind fun t=>(cA K e.p t).bind fun u=>(fL e).bind fun x=>(cA K a1.p x).bind fun y=>(m8 K u y).bind fun z=>some z))
theorem aF3{K:Nat}{j:cJ}{a1:cJ}{r:Int}(f:yW K j a1=some r):Ct Tryz.prog 87 [.va (cJ.e j),.va (cJ.e a1)] (vI r):=by
 unfold yW at f;refine aA Tryz.func87 rfl (by kernel_rfl) Tryz.ntmps87 rfl (fun w0 M0=>?_);refine aE (aI (dP rfl rfl zT (fun b1=>?_)));refine dP rfl rfl zT (fun b2=>?_);obtain⟨v5,h6,f⟩:=bE f aCr;obtain⟨v7,h8,f⟩:=bE f aCr;refine go ?_ ?_;refine dr [0,1,0,7,15,31] 6 0 ?_ (fun q G3=>?_);refine go ?_ ?_;refine dK f (fun s f=>?_) (fun s f=>?_)
 ·refine go ?_ ?_;refine kA rfl ?_;obtain⟨v10,t,f⟩:=bE f tD;obtain⟨u,x,f⟩:=bE f tD;obtain⟨y,z,f⟩:=bE f w4;exact bU
 refine go ?_ ?_;refine aD f rfl (fun h f=>?_) (fun h f=>?_)
 ·obtain⟨F,G,f⟩:=bE f tD;obtain⟨I,J,f⟩:=bE f tD;obtain⟨L,O,f⟩:=bE f w4;exact bU
 obtain⟨U,V,f⟩:=bE f mL;obtain⟨X,Y,f⟩:=bE f iU;obtain⟨v29,h30,f⟩:=bE f mL;obtain⟨v31,h32,f⟩:=bE f iU;obtain⟨v33,h34,f⟩:=bE f w4;refine go ?_ ?_;refine dr [0,1,0,4,15,0,32,0,159,511,1023,2047] 12 0 ?_ (fun k G23=>?_);refine aX (aH ?_);exact bU
abbrev aKc:Nat:=93
def aAF(K:Nat)(e:cJ):Option Bool:=
 (qD K e.p).bind fun v2=>bif(!v2) then(some false) else((qD K e.q).bind fun v5=>bif(!v5) then(some false) else(bif e.q.neg then(some false) else((uH e.q).bind fun j=>bif j then(some false) else(bif((e.q.d.length:Int)==0) then(some true) else((uU K e.p e.q).bind fun f=>(uH f).bind fun h=>some h)))))
theorem aIM{K:Nat}{k:cJ}{r:Bool}(f:aAF K k=some r):Ct Tryz.prog 93 [.va (cJ.e k)] (.vc (pB r)):=by
 unfold aAF at f;refine aA Tryz.func93 rfl (by kernel_rfl) Tryz.ntmps93 rfl (fun w0 M0=>?_);refine aE (aI (dP rfl rfl zT (fun G=>?_)));refine go ?_ ?_;refine aJ ?_;obtain⟨v2,I,f⟩:=bE f aA5;refine go ?_ ?_;refine dK f (fun q f=>?_) (fun q f=>?_)
 ·refine go ?_ ?_;refine kA rfl ?_;exact bU
 obtain⟨v5,J,f⟩:=bE f aA5;refine go ?_ ?_;refine dK f (fun s f=>?_) (fun s f=>?_)
 ·refine go ?_ ?_;refine kA rfl ?_;exact bU
 refine go ?_ ?_;refine dK f (fun t f=>?_) (fun t f=>?_)
 ·refine go ?_ ?_;refine kA rfl ?_;exact bU
 obtain⟨L,u,f⟩:=bE f y4;refine go ?_ ?_;refine aD f rfl (fun h f=>?_) (fun h f=>?_)
 ·exact bU
 refine go ?_ ?_;refine aD f rfl (fun j f=>?_) (fun j f=>?_)
 ·exact bU
 obtain⟨x,y,f⟩:=bE f aB3;obtain⟨z,F,f⟩:=bE f y4;exact bU
end Go.Proofs.YtolfcbpgmfbgmaaGreat
set_option linter.unusedVariables false
set_option maxRecDepth 100000
namespace Go.Proofs.YtolfcbpgmfbgmaaGreat
open Rat
theorem Z0:Z 0=(⟨false,[]⟩:aC):=by rw[show(0:Int)=((0:Nat):Int) from rfl,←pV];rfl
theorem aMy{x y:Int}(h:Z x=Z y):x=y:=by
 have e:decide (x<0)=decide (y<0):=congrArg aC.neg h;have f:cC x.natAbs=cC y.natAbs:=congrArg aC.d h;have j:(x.natAbs:Int)=y.natAbs:=by rw[←fC,←fC,f]
 have k:(x<0)↔(y<0):=by simpa using e
 omega
theorem aFa{x:Int}:(((Z x).d.length:Int)==0)=decide (x=0):=by
 rw[t5];by_cases h:x=0
 ·rw[dT h];subst h;rw[show Int.natAbs 0=0 from rfl,yZ];rfl
 ·have:dl x.natAbs≠0:=by rw[Ne,xM];omega
  rw[dF h,qF (by omega)]
theorem dl1:dl 1=1:=by
 unfold dl;rw[aMU (by decide) (by decide)];rfl
theorem aCt(x:Int):uH (Z x)=some (decide (x=1)):=by
 unfold uH;rw[xA];by_cases h:x<0
 ·rw[dT h,dF (p:=x=1) (by omega)];simp
 ·rw[dF h];simp only[Bool.not_false,bL,Z_d];by_cases f:(cC x.natAbs).length=1
  ·obtain⟨a1,a2⟩:=aCh f;have e:=cZ (xs:=cC x.natAbs) (i:=0) (by omega);rw[a1]at e;simp only[Int.natCast_zero]at e;rw[qT (by omega),bL,e,oB];by_cases j:x=1
   ·rw[dT j,qT (by omega)]
   ·rw[dF j,qF (by omega)]
  ·rw[qF (by omega),bG,dF];intro e;subst e;exact f dl1
theorem aKA(x:Int):pN (Z x)=some (decide (x=1)):=by
 unfold pN;rw[xA];by_cases h:x<0
 ·rw[dT h,dF (p:=x=1) (by omega)];rfl
 ·rw[dF h];simp only[bG,Z_d];by_cases f:(cC x.natAbs).length=1
  ·obtain⟨a1,a2⟩:=aCh f;have e:=cZ (xs:=cC x.natAbs) (i:=0) (by omega);rw[a1]at e;simp only[Int.natCast_zero]at e;rw[nF (by omega),bG,e,oB];by_cases j:x=1
   ·rw[dT j,qT (by omega)]
   ·rw[dF j,qF (by omega)]
  ·rw[nT (by omega),bL,dF];intro e;subst e;exact f dl1
theorem aUi{p q:Int}(hq:0<q)(e:Int.gcd p q=1):(p/. q).num=p∧(p/. q).den=q.natAbs:=by
 rw[Rat.num_divInt,Rat.den_divInt,Int.gcd_comm,e,if_neg (by omega),Int.sign_eq_one_of_pos hq];simp
theorem aGL{p q:Int}(hq:0<q)(e:Int.gcd p q=1):Qr (p/. q)=⟨Z p,if q=1 then⟨false,[]⟩ else Z q⟩:=by
 obtain⟨f,j⟩:=aUi hq e;rw[aDs,f,j];by_cases h:q=1
 ·rw[if_pos h,if_pos (by omega)]
 ·rw[if_neg h,if_neg (by omega),show(q.natAbs:Int)=q by omega]
theorem aBP{p q:Int}(hq:q≠0)(f:Int.gcd p q=1):o6 (Z p) (Z q)=some (Qr (p/. q)):=by
 unfold o6;rw[xA];by_cases h:q<0
 ·rw[dT h];simp only[bL,aMC,oB,aCt];rw[←Rat.neg_divInt_neg,aGL (by omega) (by simpa using f)];by_cases e:-q=1
  ·rw[dT e,if_pos e];rfl
  ·rw[dF e,if_neg e];rfl
 ·rw[dF h];simp only[bG,aCt,oB];rw[aGL (by omega) f];by_cases e:q=1
  ·rw[dT e,if_pos e];rfl
  ·rw[dF e,if_neg e];rfl
theorem aHP{p q:Int}(hq:q≠0):∃a b:Int,∃g:Nat,Int.gcd p q=g∧0<g∧p=a*g∧q=b*g∧Int.gcd a b=1∧b≠0∧p/(g:Int)=a∧q/(g:Int)=b:=by
 have j:0<Int.gcd p q:=Int.gcd_pos_of_ne_zero_right p hq;obtain⟨a,f⟩:=Int.gcd_dvd_left (a:=p) (b:=q);obtain⟨b,hb⟩:=Int.gcd_dvd_right (a:=p) (b:=q);have hgz:((Int.gcd p q:Nat):Int)≠0:=by omega
 have k:p/((Int.gcd p q:Nat):Int)=a:=by
  have:((Int.gcd p q:Nat):Int)*a/((Int.gcd p q:Nat):Int)=a:=Int.mul_ediv_cancel_left _ hgz
  rwa [←f]at this
 have s:q/((Int.gcd p q:Nat):Int)=b:=by
  have:((Int.gcd p q:Nat):Int)*b/((Int.gcd p q:Nat):Int)=b:=Int.mul_ediv_cancel_left _ hgz
  rwa [←hb]at this
 refine⟨a,b,Int.gcd p q,rfl,j,by rw[Int.mul_comm];exact f,by rw[Int.mul_comm];exact hb,?_,?_,k,s⟩
 ·have h:=Int.gcd_mul_left (Int.gcd p q) a b;rw[←f,←hb]at h;simp only[Int.natAbs_natCast]at h;have:Int.gcd p q*1=Int.gcd p q*Int.gcd a b:=by omega
  exact(Nat.eq_of_mul_eq_mul_left j this).symm
 ·intro e;rw[e]at hb;simp at hb;exact hq hb
theorem aBN:Qr 0=⟨⟨false,[]⟩,⟨false,[]⟩⟩:=Qr0
theorem aOX{p q:Int}(hq:q≠0):dl (Int.gcd p q)≤dl q.natAbs:=tB (Nat.le_of_dvd (by omega) (Nat.gcd_dvd_right _ _))
theorem aEc{p q:Int}(hq:q≠0)(h:dl p.natAbs≤20000000000)(j:dl q.natAbs≤20000000000):Ev (fun K=>k6 K (Z p) (Z q)) (Qr (p/. q)):=by
 unfold k6;simp only[aFa,dF hq,bG];by_cases hp:p=0
 ·subst hp;simp only[Rat.zero_divInt,aBN];exact Ev.pure _
 ·simp only[dF hp,bG];obtain⟨a,b,g,f,F,k,s,t,u,x,y⟩:=aHP (p:=p) hq;have hgl:=aOX (p:=p) hq;rw[f]at hgl;refine Ev.bind (aM7 (by omega) (by omega)) ?_;rw[f];simp only[aCt,oB];have he:p/. q=a/. b:=by
   rw[k,s];exact Rat.divInt_mul_right (by omega)
  by_cases z:g=1
  ·have e:(!decide ((g:Int)=1))=false:=by rw[dT (by omega)];rfl
   simp only[e,bG];rw[aBP hq (by rw[f];exact z)];exact Ev.pure _
  ·have e:(!decide ((g:Int)=1))=true:=by rw[dF (by omega)];rfl
   simp only[e,bL];refine Ev.bind (aL4 (by omega) (by omega) (by simp;omega)) (Ev.bind (aL4 (by omega) (by omega) (by simp;omega)) ?_);simp only[x,y];rw[aBP u t,he];exact Ev.pure _
theorem aNk(p:Int):Ev (fun K=>k6 K (Z p) (Z 0)) (Qr 0):=by
 unfold k6;simp only[aFa,aBN];exact Ev.pure _
theorem aEU{p q:Int}(hq:q≠0)(t:dl p.natAbs≤20000000000)(u:dl q.natAbs≤20000000000):Ev (fun K=>jO K (Z p) (Z q)) (Qr (p/. q)):=by
 unfold jO;simp only[aFa,dF hq,bG];by_cases hp:p=0
 ·subst hp;simp only[Rat.zero_divInt,aBN];exact Ev.pure _
 ·simp only[dF hp,bG];obtain⟨a,b,g,f,h,j,k,s,z,x,y⟩:=aHP (p:=p) hq;have hgl:=aOX (p:=p) hq;rw[f]at hgl;have hal:dl a.natAbs≤dl p.natAbs:=tB (by
   rw[j,Int.natAbs_mul,Int.natAbs_natCast];exact Nat.le_mul_of_pos_right _ h)
  have hbl:dl b.natAbs≤dl q.natAbs:=tB (by
   rw[k,Int.natAbs_mul,Int.natAbs_natCast];exact Nat.le_mul_of_pos_right _ h)
  refine Ev.bind (aQe (by omega) (by omega)) ?_;rw[f];have he:p/. q=a/. b:=by
   rw[j,k];exact Rat.divInt_mul_right (by omega)
  refine Ev.bind (aGz (by omega) (by omega) (by simp;omega)) (Ev.bind (aGz (by omega) (by omega) (by simp;omega)) ?_);simp only[x,y,xA];rw[he];by_cases hb:b<0
  ·simp only[dT hb,bL];refine Ev.bind (aGJ a (by omega)) (Ev.bind (aGJ b (by omega)) ?_);simp only[aKA,oB];rw[←Rat.neg_divInt_neg,aGL (by omega) (by simpa using s)];by_cases e:-b=1
   ·simp only[dT e,if_pos e,bL];exact Ev.pure _
   ·simp only[dF e,if_neg e,bG];exact Ev.pure _
  ·simp only[dF hb,bG,aKA,oB];rw[aGL (by omega) s];by_cases e:b=1
   ·simp only[dT e,if_pos e,bL];exact Ev.pure _
   ·simp only[dF e,if_neg e,bG];exact Ev.pure _
theorem aLG(p:Int):Ev (fun K=>jO K (Z p) (Z 0)) (Qr 0):=by
 unfold jO;simp only[aFa,aBN];exact Ev.pure _
theorem Qp(a:Rat):(Qr a).p=Z a.num:=by rw[aDs]
theorem Qq(a:Rat):(Qr a).q=if a.den=1 then⟨false,[]⟩ else Z a.den:=by rw[aDs]
theorem aIE(a:Rat):(((Qr a).q.d.length:Int)==0)=decide (a.den=1):=by
 rw[Qq];by_cases h:a.den=1
 ·rw[if_pos h,dT h];rfl
 ·rw[if_neg h,dF h,aFa,dF];have:=a.den_nz;omega
theorem aUJ{a b:Rat}(h:Qr a=Qr b):a=b:=by
 have j:Z a.num=Z b.num:=by rw[←Qp,←Qp,h]
 have e:=congrArg cJ.q h;rw[Qq,Qq]at e;have k:=aMy j;have s:a.den=b.den:=by
  by_cases f:a.den=1
  ·by_cases hb:b.den=1
   ·omega
   ·rw[if_pos f,if_neg hb,←Z0]at e;have:=aMy e;have:=b.den_nz;omega
  ·by_cases hb:b.den=1
   ·rw[if_neg f,if_pos hb,←Z0]at e;have:=aMy e;have:=a.den_nz;omega
   ·rw[if_neg f,if_neg hb]at e;have:=aMy e;omega
 exact Rat.ext k s
theorem aEF(a:Rat):fL (Qr a)=some (Z a.den):=by
 unfold fL aCK;rw[aIE];by_cases h:a.den=1
 ·rw[dT h,bL,aG4 (by omega),oB,oB,h];rfl
 ·rw[dF h,bG,Qq,if_neg h]
theorem aA3(a:Rat):Ev (fun K=>jA K (Qr a)) (Z a.den):=by
 unfold jA;rw[aIE];by_cases h:a.den=1
 ·simp only[dT h,bL];rw[h];exact Ev.bind (aBO (by omega)) (Ev.pure _)
 ·simp only[dF h,bG];rw[Qq,if_neg h];exact Ev.pure _
theorem zF{a:Rat}(h:qs a=true):dl a.num.natAbs≤40000000∧dl a.den≤40000000:=by
 unfold qs at h;simp only[Bool.and_eq_true,Nat.ble_eq]at h;have e:=aPy a.num.natAbs;have f:=aPy a.den;omega
theorem aIW(a b:Rat):a+b=(a.num*b.den+b.num*a.den)/. (a.den*b.den):=by
 have e:=a.den_nz;have hb:=b.den_nz
 conv=>lhs;rw[←Rat.num_divInt_den a,←Rat.num_divInt_den b]
 exact Rat.divInt_add_divInt _ _ (by omega) (by omega)
theorem aFY(a b:Rat):a*b=(a.num*b.num)/. (a.den*b.den):=by
 conv=>lhs;rw[←Rat.num_divInt_den a,←Rat.num_divInt_den b]
 exact Rat.divInt_mul_divInt _ _
theorem aOy(n:Int):Qr (n/. 1)=⟨Z n,⟨false,[]⟩⟩:=by
 rw[aGL (by omega) (by simp)];rfl
theorem aCB{a b:Rat}(j:qs a=true)(hb:qs b=true):dl (a.num*b.den).natAbs≤80000000∧dl (b.num*a.den).natAbs≤80000000∧dl (a.num*b.den+b.num*a.den).natAbs≤80000001∧dl ((a.den:Int)*b.den).natAbs≤80000000∧dl (a.num*b.num).natAbs≤80000000∧((a.den:Int)*b.den)≠0:=by
 obtain⟨a1,a2⟩:=zF j;obtain⟨s,b2⟩:=zF hb;have t:=aGy a.num.natAbs b.den;have u:=aGy b.num.natAbs a.den;have x:=aGy a.den b.den;have y:=aGy a.num.natAbs b.num.natAbs;have e:(a.num*b.den).natAbs=a.num.natAbs*b.den:=by rw[Int.natAbs_mul,Int.natAbs_natCast]
 have f:(b.num*a.den).natAbs=b.num.natAbs*a.den:=by rw[Int.natAbs_mul,Int.natAbs_natCast]
 have k:((a.den:Int)*b.den).natAbs=a.den*b.den:=by rw[Int.natAbs_mul,Int.natAbs_natCast,Int.natAbs_natCast]
 have q:(a.num*b.num).natAbs=a.num.natAbs*b.num.natAbs:=Int.natAbs_mul _ _;have hs:dl (a.num*b.den+b.num*a.den).natAbs≤80000001:=by
  have h:dl ((a.num*b.den).natAbs+(b.num*a.den).natAbs)≤80000000+1:=aT1 (by rw[e];omega) (by rw[f];omega);exact Nat.le_trans (tB (Int.natAbs_add_le _ _)) h
 refine⟨by rw[e];omega,by rw[f];omega,hs,by rw[k];omega,by rw[q];omega,?_⟩;have h:=a.den_nz;have z:=b.den_nz;exact Int.mul_ne_zero (by omega) (by omega)
theorem aNa{a b:Rat}(x:qs a=true)(hb:qs b=true):Ev (fun K=>aA2 K (Qr a) (Qr b)) (Qr (a+b)):=by
 obtain⟨a1,a2⟩:=zF x;obtain⟨z,b2⟩:=zF hb;obtain⟨c1,F,G,I,J,y⟩:=aCB x hb;have key:Ev (fun K=>(fL (Qr a)).bind fun e=>(fL (Qr b)).bind fun f=>(cA K (Z a.num) f).bind fun j=>(cA K (Z b.num) e).bind fun v20=>(o9 K j v20).bind fun k=>(cA K e f).bind fun q=>(k6 K k q).bind fun s=>some s) (Qr (a+b)):=by
  simp only[aEF,oB];refine Ev.bind (aAI (by simp;omega)) (Ev.bind (aAI (by simp;omega)) (Ev.bind (aMP (by omega) (by omega)) (Ev.bind (aAI (by simp;omega)) (Ev.bind (aEc y (by omega) (by omega)) ?_))));rw[←aIW];exact Ev.pure _
 have h:Ev (fun K=>bif decide (a.num=0) then some (Qr b) else bif decide (b.num=0) then some (Qr a) else(fL (Qr a)).bind fun e=>(fL (Qr b)).bind fun f=>(cA K (Z a.num) f).bind fun j=>(cA K (Z b.num) e).bind fun v20=>(o9 K j v20).bind fun k=>(cA K e f).bind fun q=>(k6 K k q).bind fun s=>some s) (Qr (a+b)):=by
  by_cases t:a.num=0
  ·simp only[dT t,bL];rw[Rat.num_eq_zero.1 t,Rat.zero_add];exact Ev.pure _
  ·simp only[dF t,bG];by_cases u:b.num=0
   ·simp only[dT u,bL];rw[Rat.num_eq_zero.1 u,Rat.add_zero];exact Ev.pure _
   ·simp only[dF u,bG];exact key
 unfold aA2;simp only[aIE,Qp,aFa];by_cases t:a.den=1
 ·simp only[dT t,bL];by_cases u:b.den=1
  ·simp only[dT u,bL];refine Ev.bind (aMP (by omega) (by omega)) ?_;have:a+b=(a.num+b.num)/. 1:=by
    rw[aIW,t,u];simp
   rw[this,aOy];exact Ev.pure _
  ·simp only[dF u,bG];exact h
 ·simp only[dF t,bG];exact h
theorem aIc{n:Int}{d e:Nat}(h:(n/. (d:Int)).den=e)(f:d≠0):e∣d:=by
 rw[Rat.den_divInt,if_neg (by omega)]at h;rw[←h];simp only[Int.natAbs_natCast];exact Nat.div_dvd_of_dvd (by rw[Int.gcd_comm];exact Nat.gcd_dvd_right _ _)
theorem aIR{n:Int}{d:Nat}(f:d≠0):(n/. (d:Int)).num.natAbs∣n.natAbs:=by
 rw[Rat.num_divInt,Int.sign_eq_one_of_pos (by omega),Int.one_mul];rw[Int.gcd_comm];obtain⟨c,hc⟩:=Int.gcd_dvd_left (a:=n) (b:=(d:Int));have h:0<Int.gcd n d:=Int.gcd_pos_of_ne_zero_right n (by omega);generalize Int.gcd n d=g at *;have e:n/(g:Int)=c:=by rw[hc];exact Int.mul_ediv_cancel_left _ (by omega)
 rw[e,hc,Int.natAbs_mul];exact Nat.dvd_mul_left _ _
theorem aRZ{a b:Rat}:Int.gcd ((a.num/. b.den).num*(b.num/. a.den).num) (((a.num/. b.den).den:Int)*(b.num/. a.den).den)=1:=by
 have e:=a.den_nz;have hb:=b.den_nz;have f:=(a.num/. b.den).reduced;have h:=(b.num/. a.den).reduced;have ra:=a.reduced;have rb:=b.reduced;have j:(a.num/. (b.den:Int)).num.natAbs∣a.num.natAbs:=aIR hb;have k:(b.num/. (a.den:Int)).num.natAbs∣b.num.natAbs:=aIR e;have d1:(a.num/. (b.den:Int)).den∣b.den:=aIc rfl hb;have d2:(b.num/. (a.den:Int)).den∣a.den:=aIc rfl e;have x1:Nat.Coprime (a.num/. (b.den:Int)).num.natAbs (b.num/. (a.den:Int)).den:=Nat.Coprime.coprime_dvd_left j (Nat.Coprime.coprime_dvd_right d2 ra);have q:Nat.Coprime (b.num/. (a.den:Int)).num.natAbs (a.num/. (b.den:Int)).den:=Nat.Coprime.coprime_dvd_left k (Nat.Coprime.coprime_dvd_right d1 rb);show Nat.gcd _ _=1;rw[Int.natAbs_mul,Int.natAbs_mul,Int.natAbs_natCast,Int.natAbs_natCast];exact Nat.Coprime.mul_left (Nat.Coprime.mul_right f x1) (Nat.Coprime.mul_right q h)
theorem aMx{n:Int}{d:Nat}(e:d≠0):dl (n/. (d:Int)).num.natAbs≤dl n.natAbs∧dl (n/. (d:Int)).den≤dl d:=by
 constructor
 ·by_cases h:n=0
  ·subst h;rw[Rat.zero_divInt];exact Nat.le_refl _
  ·exact tB (Nat.le_of_dvd (by omega) (aIR e))
 ·exact tB (Nat.le_of_dvd (by omega) (aIc rfl e))
theorem aNM{a b:Rat}(y:qs a=true)(hb:qs b=true):Ev (fun K=>(fL (Qr b)).bind fun h=>(k6 K (Z a.num) h).bind fun e=>(fL (Qr a)).bind fun j=>(k6 K (Z b.num) j).bind fun f=>(cA K e.p f.p).bind fun k=>(fL e).bind fun q=>(fL f).bind fun s=>(cA K q s).bind fun t=>(o6 k t).bind fun v30=>some v30) (Qr (a*b)):=by
 obtain⟨a1,a2⟩:=zF y;obtain⟨z,b2⟩:=zF hb;have u:=a.den_nz;have x:=b.den_nz;have F:=aMx (n:=a.num) x;have G:=aMx (n:=b.num) u;simp only[aEF,oB];refine Ev.bind (aEc (by omega) (by omega) (by simp;omega)) (Ev.bind (aEc (by omega) (by omega) (by simp;omega)) ?_);simp only[Qp];refine Ev.bind (aAI (by omega)) ?_;simp only[aEF,oB];refine Ev.bind (aAI (by rw[Int.natAbs_natCast,Int.natAbs_natCast];omega)) ?_;have I:=(a.num/. (b.den:Int)).den_nz;have J:=(b.num/. (a.den:Int)).den_nz;rw[aBP (Int.mul_ne_zero (by omega) (by omega)) aRZ,oB,←aFY];have:a.num/. (b.den:Int)*(b.num/. (a.den:Int))=a*b:=by
  rw[Rat.divInt_mul_divInt,aFY,Int.mul_comm (b.den:Int)]
 rw[this];exact Ev.pure _
theorem aLS{a b:Rat}(k:qs a=true)(hb:qs b=true):Ev (fun K=>aBt K (Qr a) (Qr b)) (Qr (a*b)):=by
 obtain⟨a1,a2⟩:=zF k;obtain⟨q,b2⟩:=zF hb;have key:=aNM k hb;unfold aBt;simp only[aIE,Qp,aFa];by_cases e:a.num=0
 ·simp only[dT e,bL];rw[Rat.num_eq_zero.1 e,Rat.zero_mul,aBN];exact Ev.pure _
 ·simp only[dF e,bG];by_cases f:b.num=0
  ·simp only[dT f,bL];rw[Rat.num_eq_zero.1 f,Rat.mul_zero,aBN];exact Ev.pure _
  ·simp only[dF f,bG];by_cases h:a.den=1
   ·simp only[dT h,bL];by_cases j:b.den=1
    ·simp only[dT j,bL];refine Ev.bind (aAI (by omega)) ?_;have:a*b=(a.num*b.num)/. 1:=by rw[aFY,h,j];rfl
     rw[this,aOy];exact Ev.pure _
    ·simp only[dF j,bG];exact key
   ·simp only[dF h,bG];exact key
theorem aMZ(a:Rat):aBq (Qr a)=some (Qr (-a)):=by
 unfold aBq;rw[Qp,aMC,oB];congr 1;rw[aDs (-a),Rat.neg_num,Rat.neg_den,Qq]
theorem aTW{a:Rat}(h:qs a=true):qs (-a)=true:=by
 unfold qs at *;rw[Rat.neg_num,Rat.neg_den,Int.natAbs_neg];exact h
theorem aRq{a b:Rat}(e:qs a=true)(hb:qs b=true):Ev (fun K=>aCR K (Qr a) (Qr b)) (Qr (a-b)):=by
 unfold aCR;simp only[aMZ,oB];refine Ev.bind (aNa e (aTW hb)) ?_;rw[Rat.sub_eq_add_neg];exact Ev.pure _
theorem aJU(a:Rat):yQ (Qr a)=some a.num.sign:=by
 unfold yQ;rw[Qp,aPY];rfl
theorem aIA{b:Rat}(h:b.num≠0):b⁻¹=(b.den:Int)/. b.num:=Rat.inv_def b
theorem aTJ{b:Rat}(hb:qs b=true):qs (b⁻¹)=true:=by
 by_cases h:b.num=0
 ·rw[Rat.num_eq_zero.1 h,Rat.inv_zero];decide
 ·have hc:Nat.gcd b.num.natAbs b.den=1:=b.reduced;rw[aIA h];unfold qs at *;have e:((b.den:Int)/. b.num).num.natAbs=b.den:=by
   rw[Rat.num_divInt];have:Int.gcd b.num b.den=1:=hc;rw[this];simp only[Int.natCast_one,Int.ediv_one,Int.natAbs_mul,Int.natAbs_natCast,Int.natAbs_sign_of_ne_zero h,Nat.one_mul]
  have f:((b.den:Int)/. b.num).den=b.num.natAbs:=by
   rw[Rat.den_divInt,if_neg h];have:Int.gcd b.num b.den=1:=hc;rw[this,Nat.div_one]
  rw[e,f,Bool.and_comm];exact hb
theorem aRP{a b:Rat}(e:qs a=true)(hb:qs b=true):Ev (fun K=>aCG K (Qr a) (Qr b)) (Qr (a/b)):=by
 unfold aCG;simp only[Qp,aFa];by_cases h:b.num=0
 ·simp only[dT h,bL];rw[Rat.num_eq_zero.1 h,Rat.div_def,Rat.inv_zero,Rat.mul_zero,aBN];exact Ev.pure _
 ·simp only[dF h,bG,aEF,oB];have hc:Int.gcd (b.den:Int) b.num=1:=by rw[Int.gcd_comm];exact b.reduced
  rw[aBP h hc,←aIA h];simp only[oB];refine Ev.bind (aLS e (aTJ hb)) ?_;rw[Rat.div_def];exact Ev.pure _
theorem aJB(x y:List Int)(F:x.length=y.length)(G:x.length≤9000000000000):∀(t i:Nat),i+t=x.length→∀K k,t<k→iQ K x y k (i:Int)=some (if x.drop i=y.drop i then .go () else .ret false)
 |0,i,I,K,k,j=>by
  obtain⟨q,rfl,_⟩:=aT j;have:i=x.length:=by omega
  subst this;simp only[iQ,dF (show¬(x.length:Int)<(x.length:Int) by omega),bG];rw[if_pos];rw[List.drop_of_length_le (Nat.le_refl _),List.drop_of_length_le (by omega)]
 |t+1,i,I,K,k,j=>by
  obtain⟨q,rfl,_⟩:=aT j;have s:decide ((i:Int)<(x.length:Int))=true:=dT (by omega);have u:=cZ (xs:=x) (i:=i) (by omega);have z:=cZ (xs:=y) (i:=i) (by omega);have J:aV ((i:Int)+1)=some ((i+1:Nat):Int):=xH (m:=0) (by omega) (by omega);have dx:x.drop i=x.getD i 0::x.drop (i+1):=by
   rw[List.drop_eq_getElem_cons (by omega)];simp[List.getD_eq_getElem?_getD,show i<x.length by omega]
  have dy:y.drop i=y.getD i 0::y.drop (i+1):=by
   rw[List.drop_eq_getElem_cons (by omega)];simp[List.getD_eq_getElem?_getD,show i<y.length by omega]
  by_cases h:x.getD i 0=y.getD i 0
  ·have ih:=aJB x y F G t (i+1) (by omega) K q (by omega);simp only[iQ,s,u,z,J,nF h,bL,bG,oB,ih];by_cases f:x.drop (i+1)=y.drop (i+1)
   ·rw[if_pos f,if_pos (by rw[dx,dy,h,f])]
   ·rw[if_neg f,if_neg (by rw[dx,dy];intro e;exact f (List.cons.inj e).2)]
  ·simp only[iQ,s,u,z,nT h,bL,oB];rw[if_neg (by rw[dx,dy];intro e;exact h (List.cons.inj e).1)]
theorem aNN(x y:List Int)(k:x.length≤9000000000000):Ev (fun K=>rH K x y) (decide (x=y)):=by
 refine⟨x.length+1,fun K q=>?_⟩;unfold rH;by_cases j:x.length=y.length
 ·have h:=aJB x y j k x.length 0 (by omega) K K (by omega);simp only[Int.natCast_zero,List.drop_zero]at h;simp only[nF (show(x.length:Int)=(y.length:Int) by omega),bG,h,oB];by_cases f:x=y
  ·rw[if_pos f,dT f];rfl
  ·rw[if_neg f,dF f]
 ·simp only[nT (show(x.length:Int)≠(y.length:Int) by omega),bL];rw[dF (by intro e;subst e;exact j rfl)]
theorem aHS(x y:aC)(k:x.d.length≤9000000000000):Ev (fun K=>wA K x y) (decide (x=y)):=by
 unfold wA;by_cases f:x.neg=y.neg
 ·have h:(x.neg==y.neg)=true:=beq_iff_eq.2 f;simp only[h,bL];refine Ev.bind (aNN _ _ k) ?_;have:decide (x.d=y.d)=decide (x=y):=by
   by_cases j:x.d=y.d
   ·rw[dT j,dT (by cases x;cases y;simp_all)]
   ·rw[dF j,dF (by intro e;subst e;exact j rfl)]
  rw[this];exact Ev.pure _
 ·have h:(x.neg==y.neg)=false:=beq_false_of_ne f;simp only[h,bG];rw[dF (by intro e;subst e;exact f rfl)];exact Ev.pure _
theorem aSU{a:Rat}(h:qs a=true):(Qr a).p.d.length≤9000000000000∧(Qr a).q.d.length≤9000000000000:=by
 obtain⟨a1,a2⟩:=zF h;rw[Qp,Qq,t5];refine⟨by omega,?_⟩;by_cases h:a.den=1
 ·rw[if_pos h];simp
 ·rw[if_neg h,t5];simp;omega
theorem aJA(a b:Rat):(bif decide ((Qr a).p=(Qr b).p) then decide ((Qr a).q=(Qr b).q) else false)=decide (a=b):=by
 by_cases h:a=b
 ·subst h;simp
 ·rw[dF h];by_cases e:(Qr a).p=(Qr b).p
  ·rw[dT e,bL,dF];intro f;exact h (aUJ (by cases j:Qr a;cases k:Qr b;rw[j,k]at e f;simp_all))
  ·rw[dF e];rfl
theorem aOV{a b:Rat}(e:qs a=true)(hb:qs b=true):Ev (fun K=>aBH K (Qr a) (Qr b)) (decide (a=b)):=by
 obtain⟨f,j⟩:=aSU e;unfold aBH;refine Ev.bind (aHS _ _ f) ?_;rw[←aJA];by_cases h:(Qr a).p=(Qr b).p
 ·simp only[dT h,bL];exact Ev.bind (aHS _ _ j) (Ev.pure _)
 ·simp only[dF h,bG];exact Ev.pure _
theorem aND{a b:Rat}(e:qs a=true)(hb:qs b=true):Ev (fun K=>t7 K (Qr a) (Qr b)) (decide (a=b)):=by
 obtain⟨f,j⟩:=aSU e;unfold t7;refine Ev.bind (aHR _ _ f) ?_;rw[←aJA];by_cases h:(Qr a).p=(Qr b).p
 ·simp only[dT h,bL];exact Ev.bind (aHR _ _ j) (Ev.pure _)
 ·simp only[dF h,bG];exact Ev.pure _
theorem aQC{a b:Rat}(e:qs a=true)(hb:qs b=true):Ev (fun K=>u6 K (Qr a) (Qr b)) (Qr (a+b)):=by
 obtain⟨a1,a2⟩:=zF e;obtain⟨h,b2⟩:=zF hb;obtain⟨c1,j,k,q,s,f⟩:=aCB e hb;unfold u6;refine Ev.bind (aA3 b) ?_;simp only[Qp];refine Ev.bind (aA7 (by simp;omega)) (Ev.bind (aA3 a) (Ev.bind (aA7 (by simp;omega)) (Ev.bind (aKG (by omega) (by omega)) (Ev.bind (aA3 a) (Ev.bind (aA3 b) (Ev.bind (aA7 (by simp;omega)) (Ev.bind (aEU f (by omega) (by omega)) ?_)))))));rw[←aIW];exact Ev.pure _
theorem aQS{a b:Rat}(e:qs a=true)(hb:qs b=true):Ev (fun K=>u7 K (Qr a) (Qr b)) (Qr (a*b)):=by
 obtain⟨a1,a2⟩:=zF e;obtain⟨h,b2⟩:=zF hb;obtain⟨c1,j,k,q,s,f⟩:=aCB e hb;unfold u7;simp only[Qp];refine Ev.bind (aA7 (by omega)) (Ev.bind (aA3 a) (Ev.bind (aA3 b) (Ev.bind (aA7 (by simp;omega)) (Ev.bind (aEU f (by omega) (by omega)) ?_))));rw[←aFY];exact Ev.pure _
theorem aPC{a:Rat}(e:qs a=true):Ev (fun K=>u5 K (Qr a)) (Qr (-a)):=by
 obtain⟨a1,a2⟩:=zF e;unfold u5;rw[Qp];refine Ev.bind (aGJ _ (by omega)) ?_;have:(⟨Z (-a.num),(Qr a).q⟩:cJ)=Qr (-a):=by rw[aDs (-a),Rat.neg_num,Rat.neg_den,Qq]
 rw[this];exact Ev.pure _
theorem aT2{p q:Int}(hp:-9223372036854775808≤p∧p≤9223372036854775807)(hq:-9223372036854775808≤q∧q≤9223372036854775807):Ev (fun K=>aEI K p q) (Qr ((p:Rat)/q)):=by
 have hs:∀n:Int,-9223372036854775808≤n∧n≤9223372036854775807→dl n.natAbs≤3:=fun n h=>aDd (by
  have:PB 3=1000000000000000000000000000:=by decide
  omega)
 have e:=hs p hp;have f:=hs q hq;unfold aEI;simp only[aG4 hp,aG4 hq,oB];rw[←Rat.divInt_eq_div];by_cases h:q=0
 ·subst h;rw[Rat.divInt_zero];exact Ev.bind (aNk p) (Ev.pure _)
 ·exact Ev.bind (aEc h (by omega) (by omega)) (Ev.pure _)
theorem aQZ{p q:Int}(hp:-9223372036854775808≤p∧p≤9223372036854775807)(hq:-9223372036854775808≤q∧q≤9223372036854775807):Ev (fun K=>vU K p q) (Qr ((p:Rat)/q)):=by
 have hs:∀n:Int,-9223372036854775808≤n∧n≤9223372036854775807→dl n.natAbs≤3:=fun n h=>aDd (by
  have:PB 3=1000000000000000000000000000:=by decide
  omega)
 have e:=hs p hp;have f:=hs q hq;unfold vU;refine Ev.bind (aBO hp) (Ev.bind (aBO hq) ?_);rw[←Rat.divInt_eq_div];by_cases h:q=0
 ·subst h;rw[Rat.divInt_zero];exact Ev.bind (aLG p) (Ev.pure _)
 ·exact Ev.bind (aEU h (by omega) (by omega)) (Ev.pure _)
theorem Ev.get{α:Type}{f:Nat→Option α}{r:α}(h:Ev f r):∃K,f K=some r:=let ⟨N,h⟩:=h;⟨N,h N (Nat.le_refl _)⟩
theorem aBB{α:Type}{a b:Rat}{r s:α}(h:(bif qs a&&qs b then some s else none)=some r):qs a=true∧qs b=true∧s=r:=by
 cases e:qs a<;>cases hb:qs b<;>rw[e,hb]at h<;>simp at h;exact⟨rfl,rfl,h⟩
theorem aIB{α:Type}{a:Rat}{r s:α}(h:(bif qs a then some s else none)=some r):qs a=true∧s=r:=by
 cases e:qs a<;>rw[e]at h<;>simp at h;exact⟨rfl,h⟩
theorem aSn{p q:Int}{r:Rat}(h:qof p q=some r):(-9223372036854775808≤p∧p≤9223372036854775807)∧(-9223372036854775808≤q∧q≤9223372036854775807)∧r=(p:Rat)/q:=by
 unfold qof at h;obtain⟨y,f,j⟩:=aR h;obtain⟨z,k,e⟩:=aR j;obtain⟨s,t⟩:=y9 f;obtain⟨u,x⟩:=y9 k;rw[s,u]at e;exact⟨t,x,(Option.some.inj e).symm⟩
theorem aDQ{a b r:Rat}(h:aGb a b=some r):Ct Tryz.prog aNI [.va (eQ a),.va (eQ b)] (.va (eQ r)):=by
 obtain⟨e,f,rfl⟩:=aBB h;obtain⟨K,j⟩:=(aNa e f).get;exact aFZ j
theorem w8{a b r:Rat}(h:aHd a b=some r):Ct Tryz.prog aNm [.va (eQ a),.va (eQ b)] (.va (eQ r)):=by
 obtain⟨e,f,rfl⟩:=aBB h;obtain⟨K,j⟩:=(aRq e f).get;exact aLn j
theorem vR{a b r:Rat}(h:aEf a b=some r):Ct Tryz.prog aNQ [.va (eQ a),.va (eQ b)] (.va (eQ r)):=by
 obtain⟨e,f,rfl⟩:=aBB h;obtain⟨K,j⟩:=(aLS e f).get;exact aGP j
theorem w6{a b r:Rat}(h:aG7 a b=some r):Ct Tryz.prog aNt [.va (eQ a),.va (eQ b)] (.va (eQ r)):=by
 obtain⟨e,f,rfl⟩:=aBB h;obtain⟨K,j⟩:=(aRP e f).get;exact aLd j
theorem vG{a r:Rat}(h:aC0 a=some r):Ct Tryz.prog aNj [.va (eQ a)] (.va (eQ r)):=by
 obtain⟨e,rfl⟩:=aIB h;exact aGx (aMZ a)
theorem eA{a:Rat}{r:Int}(h:xR a=some r):Ct Tryz.prog aK4 [.va (eQ a)] (.vc (pI .i64 r)):=by
 obtain⟨e,rfl⟩:=aIB h;exact aCr (aJU a)
theorem aFu{a b:Rat}{r:Bool}(h:aFq a b=some r):Ct Tryz.prog aKU [.va (eQ a),.va (eQ b)] (.vc (pB r)):=by
 obtain⟨e,f,rfl⟩:=aBB h;obtain⟨K,j⟩:=(aOV e f).get;exact aKq j
theorem tX{p q:Int}{r:Rat}(h:qof p q=some r):Ct Tryz.prog aQL [.vc (pI .i64 p),.vc (pI .i64 q)] (.va (eQ r)):=by
 obtain⟨e,f,rfl⟩:=aSn h;obtain⟨K,j⟩:=(aT2 e f).get;exact aNK j
theorem wY{a b r:Rat}(h:aGb a b=some r):Ct Tryz.prog aEi [.va (eQ a),.va (eQ b)] (.va (eQ r)):=by
 obtain⟨e,f,rfl⟩:=aBB h;obtain⟨K,j⟩:=(aQC e f).get;exact aDP j
theorem aDH{a b r:Rat}(h:aEf a b=some r):Ct Tryz.prog aEu [.va (eQ a),.va (eQ b)] (.va (eQ r)):=by
 obtain⟨e,f,rfl⟩:=aBB h;obtain⟨K,j⟩:=(aQS e f).get;exact aDo j
theorem uE{a r:Rat}(h:aC0 a=some r):Ct Tryz.prog aEx [.va (eQ a)] (.va (eQ r)):=by
 obtain⟨e,rfl⟩:=aIB h;obtain⟨K,f⟩:=(aPC e).get;exact aDt f
theorem zM{a b:Rat}{r:Bool}(h:aFq a b=some r):Ct Tryz.prog aDC [.va (eQ a),.va (eQ b)] (.vc (pB r)):=by
 obtain⟨e,f,rfl⟩:=aBB h;obtain⟨K,j⟩:=(aND e f).get;exact aC8 j
theorem fQ{p q:Int}{r:Rat}(h:qof p q=some r):Ct Tryz.prog aE8 [.vc (pI .i64 p),.vc (pI .i64 q)] (.va (eQ r)):=by
 obtain⟨e,f,rfl⟩:=aSn h;obtain⟨K,j⟩:=(aQZ e f).get;exact aEE j
theorem rdG{α:Type}{xs:List α}{i:Nat}{x:α}(h:xs[i]?=some x):bR xs (i:Int)=some x:=by
 unfold bR;rw[if_pos (by omega)];simpa using h
theorem rdM{α:Type}{xs:List α}{i:Nat}(h:i<xs.length):∃x,x∈xs∧xs[i]?=some x∧bR xs (i:Int)=some x:=
 ⟨xs[i],List.getElem_mem h,List.getElem?_eq_getElem h,rdG (List.getElem?_eq_getElem h)⟩
theorem stG{α:Type}{xs:List α}{i:Nat}{v:α}(h:i<xs.length):rW xs (i:Int) v=some (xs.set i v):=by
 unfold rW;rw[if_pos (by constructor;omega;simpa using h)];simp
def aAB(xs:List Int):Prop:=∀x∈xs,-9223372036854775808≤x∧x≤9223372036854775807
def Bd(n:Nat)(q:Rat):Prop:=q.num.natAbs<2^n∧q.den<2^n
theorem Bd.mono{m n:Nat}{q:Rat}(h:Bd m q)(e:m≤n):Bd n q:=
 ⟨Nat.lt_of_lt_of_le h.1 (Nat.pow_le_pow_right (by decide) e),Nat.lt_of_lt_of_le h.2 (Nat.pow_le_pow_right (by decide) e)⟩
theorem aMd{a n:Nat}(h:a<2^n)(f:n≤1073741824):a.log2≤1073741824:=by
 by_cases e:a=0
 ·subst e;decide
 ·have:=(Nat.log2_lt e).2 h;omega
theorem Bd.qs{n:Nat}{q:Rat}(h:Bd n q)(e:n≤1073741824):qs q=true:=by
 unfold Go.Proofs.YtolfcbpgmfbgmaaGreat.qs;rw[Bool.and_eq_true,Nat.ble_eq,Nat.ble_eq];exact⟨aMd h.1 e,aMd h.2 e⟩
theorem aG6(n:Int){d:Int}(e:d≠0):(Rat.divInt n d).num.natAbs≤n.natAbs:=by
 rw[Rat.num_divInt];have h:(d.sign*n/((d.gcd n:Nat):Int)).natAbs≤(d.sign*n).natAbs:=Int.natAbs_ediv_le_natAbs _ _;rw[Int.natAbs_mul,Int.natAbs_sign_of_ne_zero e,Nat.one_mul]at h;exact h
theorem aG9(n:Int){d:Int}(e:d≠0):(Rat.divInt n d).den≤d.natAbs:=by
 rw[Rat.den_divInt,if_neg e];exact Nat.div_le_self _ _
theorem Bd.divInt{k:Nat}{n d:Int}(e:d≠0)(f:n.natAbs<2^k)(h:d.natAbs<2^k):Bd k (Rat.divInt n d):=
 ⟨Nat.lt_of_le_of_lt (aG6 n e) f,Nat.lt_of_le_of_lt (aG9 n e) h⟩
theorem Bd.zero:Bd 1 0:=by constructor<;>decide
theorem aDU{a b m n:Nat}(e:a<2^m)(f:b<2^n):a*b<2^(m+n):=by
 rw[Nat.pow_add];exact Nat.mul_lt_mul'' e f
theorem Bd.mul{m n:Nat}{a b:Rat}(e:Bd m a)(hb:Bd n b):Bd (m+n) (a*b):=by
 rw[aFY];refine Bd.divInt (Int.mul_ne_zero (by have:=a.den_nz;omega) (by have:=b.den_nz;omega)) ?_ ?_
 ·rw[Int.natAbs_mul];exact aDU e.1 hb.1
 ·rw[Int.natAbs_mul,Int.natAbs_natCast,Int.natAbs_natCast];exact aDU e.2 hb.2
theorem Bd.add{m n:Nat}{a b:Rat}(e:Bd m a)(hb:Bd n b):Bd (m+n+1) (a+b):=by
 rw[aIW];have h:=aDU e.1 hb.2;have f:=aDU hb.1 e.2;have j:=aDU e.2 hb.2;rw[Nat.add_comm n m]at f;refine Bd.divInt (Int.mul_ne_zero (by have:=a.den_nz;omega) (by have:=b.den_nz;omega)) ?_ ?_
 ·have:=Int.natAbs_add_le (a.num*b.den) (b.num*a.den);rw[Int.natAbs_mul,Int.natAbs_mul,Int.natAbs_natCast,Int.natAbs_natCast]at this;rw[Nat.pow_succ];omega
 ·rw[Int.natAbs_mul,Int.natAbs_natCast,Int.natAbs_natCast,Nat.pow_succ];omega
theorem Bd.neg{n:Nat}{a:Rat}(e:Bd n a):Bd n (-a):=by
 unfold Bd;rw[Rat.neg_num,Rat.neg_den,Int.natAbs_neg];exact e
theorem Bd.sub{m n:Nat}{a b:Rat}(e:Bd m a)(hb:Bd n b):Bd (m+n+1) (a-b):=by
 rw[Rat.sub_eq_add_neg];exact e.add hb.neg
theorem Bd.inv{n:Nat}{b:Rat}(hb:Bd n b)(e:1≤n):Bd n b⁻¹:=by
 by_cases h:b.num=0
 ·rw[Rat.num_eq_zero.1 h,Rat.inv_zero];exact Bd.zero.mono e
 ·rw[aIA h];exact Bd.divInt h (by simpa using hb.2) hb.1
theorem Bd.pos{n:Nat}{q:Rat}(h:Bd n q):1≤n:=by
 rcases Nat.eq_zero_or_pos n with e|e
 ·subst e;have:=h.2;have:=q.den_nz;omega
 ·exact e
theorem Bd.div{m n:Nat}{a b:Rat}(e:Bd m a)(hb:Bd n b):Bd (m+n) (a/b):=by
 rw[Rat.div_def];exact e.mul (hb.inv hb.pos)
theorem aBL{m n:Nat}{a b:Rat}(e:Bd m a)(hb:Bd n b)(hm:m≤1073741824)(f:n≤1073741824):aGb a b=some (a+b):=by
 unfold aGb;rw[e.qs hm,hb.qs f];rfl
theorem aBF{m n:Nat}{a b:Rat}(e:Bd m a)(hb:Bd n b)(hm:m≤1073741824)(f:n≤1073741824):aHd a b=some (a-b):=by
 unfold aHd;rw[e.qs hm,hb.qs f];rfl
theorem yX{m n:Nat}{a b:Rat}(e:Bd m a)(hb:Bd n b)(hm:m≤1073741824)(f:n≤1073741824):aEf a b=some (a*b):=by
 unfold aEf;rw[e.qs hm,hb.qs f];rfl
theorem aBw{m n:Nat}{a b:Rat}(e:Bd m a)(hb:Bd n b)(hm:m≤1073741824)(f:n≤1073741824):aG7 a b=some (a/b):=by
 unfold aG7;rw[e.qs hm,hb.qs f];rfl
theorem aCe{m n:Nat}{a b:Rat}(e:Bd m a)(hb:Bd n b)(hm:m≤1073741824)(f:n≤1073741824):aFq a b=some (decide (a=b)):=by
 unfold aFq;rw[e.qs hm,hb.qs f];rfl
theorem yU{m:Nat}{a:Rat}(e:Bd m a)(hm:m≤1073741824):aC0 a=some (-a):=by
 unfold aC0;rw[e.qs hm];rfl
theorem kI{m:Nat}{a:Rat}(e:Bd m a)(hm:m≤1073741824):xR a=some a.num.sign:=by
 unfold xR;rw[e.qs hm];rfl
theorem aIL{p q:Int}(hp:-9223372036854775808≤p∧p≤9223372036854775807)(hq:-9223372036854775808≤q∧q≤9223372036854775807):qof p q=some ((p:Rat)/q):=by
 unfold qof;rw[tI hp,tI hq];rfl
theorem Bd.of{k:Nat}{p q:Int}(hq:q≠0)(e:p.natAbs<2^k)(f:q.natAbs<2^k):Bd k ((p:Rat)/q):=by
 rw[←Rat.divInt_eq_div];exact Bd.divInt hq e f
theorem aTV{k:Nat}{p q:Int}(hq:q≠0)(e:p.natAbs<2^k)(f:q.natAbs<2^k)(h:k≤62):∃r,qof p q=some r∧r=(p:Rat)/q∧Bd k r:=by
 have:2^k≤2^62:=Nat.pow_le_pow_right (by decide) h;refine⟨_,aIL (by omega) (by omega),rfl,Bd.of hq e f⟩
open Go.ChangeShapes Go.WideShapes Go.ChangeAt Go.RowKit
inductive AV
 |vi (n:Int)
 |vs (xs:List Int)
 |vb (b:Bool)
inductive AK
 |ki
 |ks
 |kb
def AV.vp:AV→VP
 | .vi n=>.vc (pI .i64 n)
 | .vs xs=>.vc (pS cI xs)
 | .vb x=>.vc (pB x)
def AV.good:AK→AV→Prop
 | .ki,.vi n=>-9223372036854775808≤n∧n≤9223372036854775807
 | .ks,.vs xs=>aAB xs∧xs.length≤aBZ
 | .kb,.vb _=>True
 |_,_=>False
def AK.ok(P:Program)(t:TypeId):AK→Prop
 | .ki=>P.underlying t=some (.int .i64)
 | .ks=>∃e,P.underlying t=some (.slice e)∧P.underlying e=some (.int .i64)∧P.cellsOf e=1
 | .kb=>P.underlying t=some .bool
def aHI(W:World):jW:=fun b=>W.heap[b]?
theorem aRj{H:Type}{enc:TypeId×Value→H}{P:Program}{W:World}{base:Nat}{t:TypeId}{v:Value}{d:DataW H}{p:List MemPlace}{k:AK}(G:k.ok P t)(hval:Value.okWide P W .any base t v)(h:DataW.Trod enc P W 0 (fun _=>true) true t v d p):
  ∃av:AV,AV.good k av∧av.vp.h (aHI W) v∧∀(W':World) (sp:Nat→Bool),(∀b,b<W.heap.size→W'.heap[b]?=W.heap[b]?)→(∀q∈p,sp q.block=true)→DataW.Trod enc P W' 0 sp true t v d p:=by
 cases k with
 |ki=>
  obtain⟨n,rfl,rfl,rfl,hw⟩:=open_int G hval h;exact⟨.vi n,bounds_i64 hw,rfl,fun W' sp _ _=>shut_int G hw⟩
 |kb=>
  obtain⟨x,rfl,rfl,rfl⟩:=open_bool G hval h;exact⟨.vb x,trivial,rfl,fun W' sp _ _=>shut_bool G x⟩
 |ks=>
  obtain⟨e,I,he,hc⟩:=G;obtain⟨V,aFa,y,rfl⟩:=okWide_slice I hval;obtain⟨aT,hf⟩:=h;rcases open_ints I he hc hf with⟨K,X⟩|⟨a,len,cap,zs,K,hb,Y,hm,hz,F,hcell,hw⟩
  ·have z:Value.slice V aFa y=.slice none 0 0:=by simpa [Value.cells] using K
   rw[z];simp only[Prod.mk.injEq]at X;obtain⟨rfl,rfl⟩:=X;exact⟨.vs [],⟨fun x F=>by simp at F,by simp⟩,eG cI _,fun W' sp _ _=>shut_slice_nil I⟩
  ·have z:Value.slice V aFa y=.slice (some a) len cap:=by simpa [Value.cells] using K
   rw[z];simp only[Prod.mk.injEq]at F;obtain⟨rfl,rfl⟩:=F;have hzl:zs.length=cap:=by simpa using hz
   have hbl:∀i,i<zs.length→a.block<W.heap.size:=fun i J=>by
    have:=hcell i J;unfold World.cell? at this;rw[block_add]at this;cases hq:W.heap[a.block]? with
    |none=>rw[hq]at this;cases this
    |some o=>exact(Array.getElem?_eq_some_iff.1 hq).1
   refine⟨.vs (zs.take len),⟨fun x F=>bounds_i64 (hw x (List.mem_of_mem_take F)),?_⟩,?_,fun W' sp hW hsp=>⟨2,?_⟩⟩
   ·have L:(zs.take len).length≤cap:=by simp;omega
    have:maxLen≤aBZ:=by decide
    omega
   ·have hlen:(zs.take len).length=len:=by simp;omega
    refine⟨some a,cap,by rw[hlen],?_,by rw[hlen];exact Y,fun j x O=>?_⟩
    ·rw[hlen];have:maxLen≤aBZ:=by decide
     omega
    ·have hjl:j<len:=by have:=(List.getElem?_eq_some_iff.1 O).1;omega
     have hcj:=hcell j (by omega);have hsp:a.spot=none:=by
      have f:=hcell 0 (by omega);unfold World.cell? at f;cases hq:a.spot with
      |none=>rfl
      |some s=>
       have e0:a.add 0=a:=by simp[Addr.add]
       rw[e0,hq]at f;cases hh:W.heap[a.block]? with
       |none=>rw[hh]at f;cases f
       |some o=>rw[hh]at f;cases o<;>simp at f
     obtain⟨ab,ao,ax⟩:=a;simp only at hsp;subst hsp;have hxz:zs.getD j 0=x:=by
      rw[List.getElem?_take,if_pos hjl]at O;simp[List.getD_eq_getElem?_getD,O]
     rw[aAc,hxz]at hcj;refine⟨ab,ao,rfl,[.int .i64 x],⟨rfl,trivial⟩,fun t u hu=>?_⟩;cases t with
     |succ t=>simp at hu
     |zero=>
      simp only[List.getElem?_cons_zero,Option.some.injEq]at hu;subst hu;unfold World.cell? at hcj;have e1:ao+j*cI.n+0=ao+j:=by show ao+j*1+0=ao+j;omega
      rw[e1];unfold yD aHI;cases hh:W.heap[ab]? with
      |none=>rw[hh]at hcj;cases hcj
      |some o=>rw[hh]at hcj;cases o<;>simp_all
   ·have U:zs.length=(if sp a.block then cap else len):=by
     by_cases h0:cap=0
     ·have:len=0:=by omega
      rw[hzl,h0,this];simp
     ·have:sp a.block=true:=hsp (.cell a.block (a.off+0)) (by
       unfold MemPlace.row;exact List.mem_map.2 ⟨0,List.mem_range.2 (by omega),rfl⟩)
      rw[this];simpa using hzl
    exact shut_ints 0 I he hc (Nat.zero_le _) Y hm U (fun i J=>by
     rw[←hcell i J];unfold World.cell?;rw[block_add,hW _ (hbl i J)]) hw
def AKs(P:Program):List TypeId→List AK→Prop
 |[],[]=>True
 |t::ts,k::ks=>k.ok P t∧AKs P ts ks
 |_,_=>False
def aKJ:List AK→List AV→Prop
 |[],[]=>True
 |k::ks,a::l=>AV.good k a∧aKJ ks l
 |_,_=>False
theorem aKo{H:Type}{enc:TypeId×Value→H}{P:Program}{W:World}{base:Nat}:∀{ts:List TypeId} {ks:List AK} {vs:List Value} {ds:List (DataW H)} {p:List MemPlace},AKs P ts ks→
  (∀(j:Nat) t v,ts[j]?=some t→vs[j]?=some v→Value.okWide P W .any base t v)→DataW.TrodAll enc P W 0 (fun _=>true) true ts vs ds p→
  ∃avs,aKJ ks avs∧lO (aHI W) (avs.map AV.vp) vs∧ds.length=ts.length∧∀(W':World) (sp:Nat→Bool),(∀b,b<W.heap.size→W'.heap[b]?=W.heap[b]?)→(∀q∈p,sp q.block=true)→DataW.TrodAll enc P W' 0 sp true ts vs ds p
 |[],[],vs,ds,p,_,_,h=>by
  obtain⟨rfl,rfl,rfl⟩:=trodAll_nil h;exact⟨[],trivial,trivial,rfl,fun _ _ _ _=>trodAll_mk0⟩
 |t::ts,k::ks,vs,ds,p,e,hv,h=>by
  obtain⟨v,vs',d,ds',q,r,rfl,rfl,rfl,y,z⟩:=trodAll_cons h;obtain⟨av,a1,a2,a3⟩:=aRj e.1 (hv 0 t v rfl rfl) y;obtain⟨avs,F,b2,G,I⟩:=aKo e.2 (fun j J K L f=>hv (j+1) J K (by simpa using L) (by simpa using f)) z;exact⟨av::avs,⟨a1,F⟩,⟨a2,b2⟩,by simp[G],fun W' sp u hsp=>trodAll_cons_mk (a3 W' sp u fun x s=>hsp x (by simp[s])) (I W' sp u fun x s=>hsp x (by simp[s]))⟩
 |[],_::_,_,_,_,e,_,_=>e.elim
 |_::_,[],_,_,_,e,_,_=>e.elim
theorem aRY{H:Type}{enc:TypeId×Value→H}{P:Program}{f:Func}{s:ChangeSpec}{apart fresh:Bool}{W W':World}{args:Array Value}{ds:List (DataW H)}{before:List MemPlace}{tb:TypeId}
  (e:DataW.Whole enc P f.params.toList s.vars apart W args.toList ds [] before)(hv:s.vars=[])(hr:f.resultTypes=#[tb])(htb:P.underlying tb=some .bool)
  (hfn:s.fn H (ds++[])={results:=[.lit (.bool true)],args:=ds})
  (hargs:∀sp:Nat→Bool,(∀p∈before,sp p.block=true)→DataW.TrodAll enc P W' 0 sp true f.params.toList args.toList ds before)(hb:Below W.heap.size W W'):
  s.post enc P f apart fresh false false W args (.bool true) W':=by
 have hin:∀p∈before,(fun b=>decide (b<W.heap.size)) p.block=true:=fun p hp=>by simpa using e.lt p hp
 refine⟨ds,[],before,[],before,[],e,?_,?_,?_,World.keptBut_mono (fun p hp=>⟨hp,.inr (.inl hp)⟩) (hb.frame (·∈before)),fun h=>by cases h⟩
 ·rw[hfn,hr];exact trodAll_mk1 (shut_bool htb true)
 ·rw[hfn];exact hargs _ hin
 ·rw[hfn,hv];simp[DataW.TrodVars]
theorem own:ownKnob Tryz.prog.godebug=none:=by kernel_rfl
open Go.ChangeShapes Go.WideShapes Go.ChangeAt Go.RowKit
theorem aUq{H:Type}(d:DataW H):1≤Rows.uptoBulk d:=by
 cases d with
 |lit l=>cases l<;>simp[Rows.uptoBulk]
 |nil=>simp[Rows.uptoBulk]
 |ptr d=>simp[Rows.uptoBulk]
 |slice elems spare=>simp[Rows.uptoBulk]
 |agg parts=>simp[Rows.uptoBulk]
 |iface t d=>simp[Rows.uptoBulk]
 |map entries=>simp[Rows.uptoBulk]
 |held h=>simp[Rows.uptoBulk]
theorem aUB{H:Type}(l:List (DataW H)):l.length≤Rows.uptoBulkAll l:=by
 induction l with
 |nil=>simp[Rows.uptoBulkAll]
 |cons x r ih=>have:=aUq x;simp only[Rows.uptoBulkAll,List.length_cons];omega
def AV.len:AV→Nat
 | .vs xs=>xs.length
 |_=>0
def aHx:List AV→Nat
 |[]=>0
 |a::l=>a.len+aHx l
theorem aRe{H:Type}{enc:TypeId×Value→H}{P:Program}{W:World}{t:TypeId}{v:Value}{d:DataW H}{p:List MemPlace}{k:AK}{av:AV}(x:k.ok P t)(q:AV.good k av)(y:av.vp.h (aHI W) v)(h:DataW.Trod enc P W 0 (fun _=>true) true t v d p):av.len≤Rows.uptoBulk d:=by
 cases av with
 |vi n=>exact Nat.zero_le _
 |vb b=>exact Nat.zero_le _
 |vs xs=>
  cases k with
  |ki=>exact q.elim
  |kb=>exact q.elim
  |ks=>
   obtain⟨e,z,he,hc⟩:=x;obtain⟨aT,F⟩:=h;obtain⟨pp,c,hv,_⟩:=y;subst hv;show xs.length≤_;rcases open_ints z he hc F with⟨j,J⟩|⟨a,len,cap,zs,j,hb,K,hm,G,s,hcell,hw⟩
   ·have f:Value.slice pp xs.length c=.slice none 0 0:=by simpa [Value.cells] using j
    injection f with _ u _
    rw[u];exact Nat.zero_le _
   ·have f:Value.slice pp xs.length c=.slice (some a) len cap:=by simpa [Value.cells] using j
    injection f with _ u _
    simp only[Prod.mk.injEq]at s;obtain⟨I,_⟩:=s;have hzl:zs.length=cap:=by simpa using G
    rw[I];simp only[Rows.uptoBulk];refine Nat.le_trans ?_ (Nat.le_trans (Nat.le_trans (aUB _) (Nat.le_add_right _ _)) (Nat.le_succ _));show xs.length≤(List.map _ (List.take len zs)).length;rw[List.length_map,List.length_take];omega
theorem aJ8{H:Type}{enc:TypeId×Value→H}{P:Program}{W:World}:∀{ts:List TypeId} {ks:List AK} {vs:List Value} {ds:List (DataW H)} {p:List MemPlace} {avs:List AV},AKs P ts ks→aKJ ks avs→lO (aHI W) (avs.map AV.vp) vs→DataW.TrodAll enc P W 0 (fun _=>true) true ts vs ds p→aHx avs≤Rows.uptoBulkAll ds
 |[],[],vs,ds,p,[],_,_,_,h=>Nat.zero_le _
 |t::ts,k::ks,vs,ds,p,a::avs,e,f,j,h=>by
  obtain⟨v,vs',d,ds',q,r,rfl,rfl,rfl,s,u⟩:=trodAll_cons h;have x:=aRe e.1 f.1 j.1 s;have b2:=aJ8 e.2 f.2 j.2 u;simp only[Rows.uptoBulkAll,aHx];omega
 |[],[],_,_,_,_::_,_,f,_,_=>f.elim
 |_::_,_::_,_,_,_,[],_,f,_,_=>f.elim
 |[],_::_,_,_,_,_,e,_,_,_=>e.elim
 |_::_,[],_,_,_,_,e,_,_,_=>e.elim
theorem aHf{H:Type}{enc:TypeId×Value→H}{P:Program}{n:Nat}{f:Func}{s:ChangeSpec}{apart fresh:Bool}{ts:List TypeId}{ks:List AK}{tb:TypeId}(hp:f.params=ts.toArray)(G:AKs P ts ks)
  (hlaw:∀avs,aKJ ks avs→aHx avs≤1048576→Ct P n (avs.map AV.vp) (.vc (pB true)))(hv:s.vars=[])(hr:f.resultTypes=#[tb])(htb:P.underlying tb=some .bool)
  (hfn:∀ds:List (DataW H),ds.length=ts.length→s.fn H (ds++[])={results:=[.lit (.bool true)],args:=ds})
  {W:World}{base:Nat}{args:Array Value}{ds gs:List (DataW H)}{before:List MemPlace}(hval:∀(j:Nat) t v,f.params[j]?=some t→args[j]?=some v→Value.okWide P W .any base t v)
  (I:DataW.Whole enc P f.params.toList s.vars apart W args.toList ds gs before)(hu:Rows.uptoSmall H (ds++gs)=true):
  Calls P n args W fun e W'=>∃v,e=.returned v∧s.post enc P f apart fresh false false W args v W':=by
 have k:=I;obtain⟨p,q,u,J,rfl,hfz,hnd⟩:=I;rw[hv]at J;obtain⟨rfl,rfl⟩:=trodVars_none J;rw[hp]at u hval;obtain⟨avs,a1,a2,a3,a4⟩:=aKo G (fun j t v K y=>hval j t v (by simpa using K) (by simpa using y)) u;have hb:=aJ8 G a1 a2 u;have z:Rows.uptoBulkAll (ds++[])≤1048576:=of_decide_eq_true hu;rw[List.append_nil]at z;have c:=hlaw avs a1 (by omega);refine(c.run (aHI W) W args (fun b o h=>h) (by simp) (by simp) a2).mono fun e W' h=>?_
 obtain⟨v,M',Ho,qq,⟨rfl,rfl⟩,rfl,hst,hq⟩:=h;have F:v=.bool true:=hq;subst F;have hkeep:∀b,b<W.heap.size→W'.heap[b]?=W.heap[b]?:=fun b hb=>hst.keep b hb (by simp)
 refine⟨_,rfl,aRY (tb:=tb) k hv hr htb (hfn ds a3) (fun sp hsp=>?_) ⟨hst.os,hst.tape,hst.output,hst.size,hkeep⟩⟩;rw[hp];have:=a4 W' sp hkeep (fun x L=>hsp x (by simpa using L));simpa using this
/-- The facts, numbered. -/
def jF(P:Program)(f:FuncId)(fn:Func)(s:ChangeSpec)(c:OpenClaim):Nat→Bool
 |0=>c.wf (OpenSpec.ofChange s)
 |1=>laidOutB P
 |2=>mapsRowed P
 |3=>fn.params.all (P.readableRec ·)
 |4=>namedTie P c.named s.vars
 |5=>c.stops==[]
 |6=>P.stops==[]
 |7=>c.knobs==[]
 |8=>P.stopKnobs==[]
 |9=>c.inPlace==P.inPlace f
 |10=>c.unfollowed==P.unfollowed f
 |11=>c.recurses==P.recurses f
 |12=>c.named==P.varsNamed f
 |13=>c.maps==(fn.params.toList++s.plain.varTypes P).any (P.mapsRec ·)
 |14=>c.ifaces==(fn.params.toList++s.plain.varTypes P).any (P.ifacesRec ·)
 |15=>c.mapsOut==P.mapsAmong fn.resultTypes.toList
 |16=>c.loops==(fn.params.toList++s.plain.varTypes P).any (P.loopsFrom ·)
 |17=>c.wideKeys==(fn.params.toList++s.plain.varTypes P++fn.resultTypes.toList).any (P.wideKeysFrom ·)
 |18=>s.vars.all (P.varReadable ·)
 |19=>fn.resultTypes.all (fun t=>P.readableRec t&&decide (t<P.types.size))
 |20=>c.ifacesOut==fn.resultTypes.toList.any (P.ifacesRec ·)
 |21=>c.loopsOut==fn.resultTypes.toList.any (P.loopsFrom ·)
 |22=>c.plainKeys==P.plainKeys
 |23=>c.shortTexts.isNone
 |24=>P.stopsHeard
 |25=>P.mayEnter
 |26=>c.lifted==P.liftsFinal
 |27=>P.make==some c.make
 |28=>c.kinds==(if c.domain.isEmpty then [] else fn.params.toList.map fun t=>match P.underlying t with|some (.int k)=>some k|_=>none)
 |29=>c.pinned==c.pinnedBy
 |30=>c.veiled==(fn.params.toList++s.plain.varTypes P++fn.resultTypes.toList).any (P.veiledRec ·)
 |31=>c.veiledFits P fn.params.toList (fn.params.toList++s.plain.varTypes P++fn.resultTypes.toList)
 |_=>true
theorem aNo{P:Program}{f:FuncId}{fn:Func}{s:ChangeSpec}{c:OpenClaim}(h:∀i,i<32→jF P f fn s c i=true):joinedFacts P f fn s c=true:=by
 unfold joinedFacts;simp only[Bool.and_eq_true];exact⟨⟨⟨⟨⟨⟨⟨⟨⟨⟨⟨⟨⟨⟨⟨⟨⟨⟨⟨⟨⟨⟨⟨⟨⟨⟨⟨⟨⟨⟨⟨h 0 (by decide),h 1 (by decide)⟩,h 2 (by decide)⟩,h 3 (by decide)⟩,h 4 (by decide)⟩,h 5 (by decide)⟩,h 6 (by decide)⟩,h 7 (by decide)⟩,h 8 (by decide)⟩,h 9 (by decide)⟩,h 10 (by decide)⟩,h 11 (by decide)⟩,h 12 (by decide)⟩,h 13 (by decide)⟩,h 14 (by decide)⟩,h 15 (by decide)⟩,h 16 (by decide)⟩,h 17 (by decide)⟩,h 18 (by decide)⟩,h 19 (by decide)⟩,h 20 (by decide)⟩,h 21 (by decide)⟩,h 22 (by decide)⟩,h 23 (by decide)⟩,h 24 (by decide)⟩,h 25 (by decide)⟩,h 26 (by decide)⟩,h 27 (by decide)⟩,h 28 (by decide)⟩,h 29 (by decide)⟩,h 30 (by decide)⟩,h 31 (by decide)⟩
theorem l8{φ:Nat→Prop}{n:Nat}(h:φ n)(k:∀i,i<n→φ i):∀i,i<n+1→φ i:=fun i f=>by
 by_cases e:i=n
 ·rw[e];exact h
 ·exact k i (by omega)
open Rat
def aPk(a b:Rat):Option Int:=bif qs a&&qs b then some (if a<b then -1 else if b<a then 1 else 0) else none
def aQo(a:Rat):Option Bool:=bif qs a then some true else none
theorem aPr(x y:Int)(e:x<0)(f:y<0):aAf (y.natAbs:Int) (x.natAbs:Int)=aAf x y:=by
 unfold aAf;by_cases a:x<y
 ·rw[if_pos a,if_pos (by omega)]
 ·rw[if_neg a,if_neg (by omega)];by_cases b:y<x
  ·rw[if_pos b,if_pos (by omega)]
  ·rw[if_neg b,if_neg (by omega)]
theorem aG2{x y:Int}(j:dl x.natAbs≤9000000000000)(k:dl y.natAbs≤9000000000000):Ev (fun K=>m8 K (Z x) (Z y)) (aAf x y):=by
 have dx:=cG x.natAbs;have dy:=cG y.natAbs;have tx:=rG x.natAbs;have ty:=rG y.natAbs;unfold m8;simp only[Z_d,xA];by_cases f:x<0
 ·by_cases e:y<0
  ·simp only[dT f,dT e,bne_self_eq_false,bG,bL];have h:=aAK dy dx ty tx (by show dl _≤_;omega);rw[fC,fC,aPr x y f e]at h;exact Ev.bind h (Ev.pure _)
  ·simp only[dT f,dF e,Bool.bne_false,bL];unfold aAf;rw[if_pos (by omega)];exact Ev.pure _
 ·by_cases e:y<0
  ·simp only[dF f,dT e,Bool.bne_true,Bool.not_false,bL,bG];unfold aAf;rw[if_neg (by omega),if_pos (by omega)];exact Ev.pure _
  ·simp only[dF f,dF e,bne_self_eq_false,bG];have h:=aAK dx dy tx ty (by show dl _≤_;omega);rw[fC,fC,show((x.natAbs:Nat):Int)=x by omega,show((y.natAbs:Nat):Int)=y by omega]at h;exact Ev.bind h (Ev.pure _)
theorem aN2(a b:Rat):(if a<b then -1 else if b<a then 1 else 0:Int)=aAf (a.num*b.den) (b.num*a.den):=by
 unfold aAf;simp only[Rat.lt_iff]
theorem aGs(u v:Int)(p q:Nat)(hp:0<p)(hq:0<q)(h:u.sign≠v.sign∨u=0∧v=0):aAf u.sign v.sign=aAf (u*q) (v*p):=by
 have key:∀(w:Int) (n:Nat),0<n→(w<0∧w.sign=-1∧w*n<0)∨(w=0∧w.sign=0∧w*n=0)∨(0<w∧w.sign=1∧0<w*n):=fun w n j=>by
  rcases Int.lt_trichotomy w 0 with hw|hw|hw
  ·exact .inl ⟨hw,Int.sign_eq_neg_one_of_neg hw,Int.mul_neg_of_neg_of_pos hw (by omega)⟩
  ·exact .inr (.inl ⟨hw,by rw[hw];rfl,by rw[hw,Int.zero_mul]⟩)
  ·exact .inr (.inr ⟨hw,Int.sign_eq_one_of_pos hw,Int.mul_pos hw (by omega)⟩)
 unfold aAf;rcases key u q hq with⟨_,e,f⟩|⟨_,e,f⟩|⟨_,e,f⟩<;>rcases key v p hp with⟨_,f1,f2⟩|⟨_,f1,f2⟩|⟨_,f1,f2⟩<;>rw[e,f1]at h<;>rw[e,f1]<;>(repeat' split)<;>omega
theorem aMG(u:Int):-9223372036854775808≤u.sign∧u.sign≤9223372036854775807∧dl u.sign.natAbs≤1:=by
 have e:dl 1=1:=dl1;have f:dl 0=0:=yZ;rcases Int.lt_trichotomy u 0 with hw|hw|hw
 ·rw[Int.sign_eq_neg_one_of_neg hw];exact⟨by omega,by omega,by show dl 1≤1;omega⟩
 ·rw[hw];exact⟨by decide,by decide,by show dl 0≤1;omega⟩
 ·rw[Int.sign_eq_one_of_pos hw];exact⟨by omega,by omega,by show dl 1≤1;omega⟩
theorem aKp{a b:Rat}(j:qs a=true)(hb:qs b=true):Ev (fun K=>yW K (Qr a) (Qr b)) (if a<b then -1 else if b<a then 1 else 0):=by
 obtain⟨a1,a2⟩:=zF j;obtain⟨k,b2⟩:=zF hb;obtain⟨c1,q,s⟩:=aCB j hb;obtain⟨s1,s2,t⟩:=aMG a.num;obtain⟨t1,t2,t3⟩:=aMG b.num;have ad:=a.den_pos;have bd:=b.den_pos;rw[aN2];unfold yW;simp only[aJU,oB,aG4 ⟨s1,s2⟩,aG4 ⟨t1,t2⟩];by_cases h:a.num.sign=b.num.sign
 ·simp only[nF h,bG];by_cases f:a.num.sign=0
  ·simp only[qT f,bL];have e:=aGs a.num b.num a.den b.den ad bd (.inr ⟨Int.sign_eq_zero_iff_zero.1 f,Int.sign_eq_zero_iff_zero.1 (h▸f)⟩);rw[←e];exact Ev.bind (aG2 (by omega) (by omega)) (Ev.pure _)
  ·simp only[qF f,bG,aEF,oB,Qp];exact Ev.bind (aAI (by simp;omega)) (Ev.bind (aAI (by simp;omega)) (Ev.bind (aG2 (by omega) (by omega)) (Ev.pure _)))
 ·simp only[nT h,bL];rw[←aGs a.num b.num a.den b.den ad bd (.inl h)];exact Ev.bind (aG2 (by omega) (by omega)) (Ev.pure _)
theorem vdig{d:Int}(h:0≤d∧d<1000000000):lY d=some false:=by
 unfold lY;rw[dF (by omega),bG,dF (by omega)]
theorem aJJ{xs:List Int}(e:m5 xs)(f:xs.length≤9000000000000)(K:Nat):∀(m i:Nat),i+m=xs.length→∀k,m<k→gL K xs lY k i=some (.go ())
 |0,i,h,k+1,_=>by
  simp only[gL];rw[dF (by omega),bG]
 |m+1,i,h,k+1,j=>by
  simp only[gL];rw[dT (by omega),bL,cZ (by omega),oB,vdig (e i),oB,bG,show((i:Nat):Int)+1=((i+1:Nat):Int) by omega,aQR (by omega) (by omega),oB];exact aJJ e f K m (i+1) (by omega) k (by omega)
theorem aQn{n:Nat}(h:dl n≠0):(cC n).getD (dl n-1) 0≠0:=by
 rcases rG n with e|e
 ·exact absurd (by unfold dl;rw[e];rfl) h
 ·exact e
theorem aQO{x:Int}(j:dl x.natAbs≤9000000000000):Ev (fun K=>qD K (Z x)) true:=by
 refine⟨dl x.natAbs+1,fun K k=>?_⟩;have hc:lH K (cC x.natAbs) lY=some false:=by
  unfold lH qN;have:=aJJ (cG x.natAbs) (by show dl _≤_;omega) K (dl x.natAbs) 0 (by show 0+dl _=dl _;omega) K (by omega);rw[show((0:Nat):Int)=0 from rfl]at this;rw[this];rfl
 show qD K (Z x)=some true;unfold qD;have e:(((cC x.natAbs).length:Int)==0)=decide (x=0):=aFa;rw[Z_d,hc,oB,bG,e];by_cases h:x=0
 ·rw[dT h,bL,xA,dF (by omega)];rfl
 ·have f:dl x.natAbs≠0:=by rw[Ne,xM];omega
  have hlen:(cC x.natAbs).length=dl x.natAbs:=rfl;rw[dF h,bG,dT (by omega),bL,aQR (by omega) (by omega),oB,hlen,show((dl x.natAbs:Nat):Int)-1=((dl x.natAbs-1:Nat):Int) by omega,cZ (by omega),oB,nT (aQn f)]
theorem Qr_Z(a:Rat):Qr a=⟨Z a.num,Z (if a.den=1 then 0 else a.den)⟩:=by
 rw[aDs];by_cases h:a.den=1
 ·rw[if_pos h,if_pos h,Z0]
 ·rw[if_neg h,if_neg h]
theorem aTO{a:Rat}:(if a.den=1 then(0:Int) else a.den)≠1∧0≤(if a.den=1 then(0:Int) else a.den)∧dl (if a.den=1 then(0:Int) else a.den).natAbs≤dl a.den∧((if a.den=1 then(0:Int) else a.den)≠0→Int.gcd a.num (if a.den=1 then(0:Int) else a.den)=1):=by
 by_cases h:a.den=1
 ·rw[if_pos h];exact⟨by omega,by omega,by show dl 0≤_;rw[yZ];omega,fun h=>absurd rfl h⟩
 ·rw[if_neg h];exact⟨by omega,by omega,by simp,fun _=>a.reduced⟩
theorem aNv{a:Rat}(e:qs a=true):Ev (fun K=>aAF K (Qr a)) true:=by
 obtain⟨a1,a2⟩:=zF e;obtain⟨f,k,s,j⟩:=@aTO a;rw[Qr_Z];generalize(if a.den=1 then(0:Int) else a.den)=q at *;unfold aAF;refine Ev.bind (aQO (by omega)) ?_;simp only[Bool.not_true,bG];refine Ev.bind (aQO (by omega)) ?_;simp only[Bool.not_true,bG,xA,dF (show¬q<0 by omega),aCt,oB,dF f,aFa];by_cases h:q=0
 ·simp only[dT h,bL];exact Ev.pure _
 ·simp only[dF h,bG];refine Ev.bind (aM7 (by omega) (by omega)) ?_;rw[j h];simp only[aCt,oB];exact Ev.pure _
theorem aCm{a b:Rat}{r:Int}(h:aPk a b=some r):Ct Tryz.prog aHc [.va (eQ a),.va (eQ b)] (.vc (pI .i64 r)):=by
 obtain⟨e,f,rfl⟩:=aBB h;obtain⟨K,j⟩:=(aKp e f).get;exact aF3 j
theorem aIf{a:Rat}{r:Bool}(h:aQo a=some r):Ct Tryz.prog aKc [.va (eQ a)] (.vc (pB r)):=by
 obtain⟨e,rfl⟩:=aIB h;obtain⟨K,f⟩:=(aNv e).get;exact aIM f
/-- The parts of a loop's record that stay. -/
structure LX where
 fn:FuncId
 tmps:Array Value
 ps:Array Tmp
 asg:Code
 bd:Code
 D:Nat
def LX.at(x:LX)(st:LoopState)(pe:Option Code):Loop:={state:=st,pending:=pe,fn:=x.fn,tmps:=x.tmps,params:=x.ps,assign:=x.asg,body:=x.bd,defers:=x.D}
def rcS(x:LX)(jump:Nat→Code):Nat→Obj
 |0=>.loop (x.at .ready none)
 |j+1=>.loop (x.at .done (some (jump j)))
def rcB(x:LX):Obj:=.loop (x.at .busy none)
theorem aD0(x:LX)(jump:Nat→Code)(j:Nat):∃r,rcS x jump j=.loop r:=by cases j<;>exact⟨_,rfl⟩
def pY(l:Nat):CP:=⟨fun _ v=>v=.func (.yield l) #[] #[],fun _ h=>h,fun h=>by subst h;rfl⟩
def jW.less(M:jW)(l:Nat):jW:=fun b=>if b=l then none else M b
def jW.more(M:jW)(l:Nat)(o:Obj):jW:=fun b=>if b=l then some o else M b
theorem zU(M:jW)(l:Nat):M.less l l=none:=if_pos rfl
theorem aCF(M:jW)(l:Nat)(o:Obj):M.more l o l=some o:=if_pos rfl
theorem aBJ{M:jW}{l b:Nat}(h:b≠l):M.less l b=M b:=if_neg h
theorem aCN{M:jW}{l b:Nat}{o:Obj}(h:b≠l):M.more l o b=M b:=if_neg h
theorem aIr{M:jW}{l:Nat}{r:Loop}(h:M l=some (.loop r)):mlc M (M.less l):=fun b i v hv=>by
 unfold yD at hv ⊢;by_cases e:b=l
 ·subst e;rw[h]at hv;cases hv
 ·rw[aBJ e];exact hv
theorem aB4{M:jW}{l:Nat}{o:Obj}(h:M l=none):oQ M (M.more l o):=fun b f hb=>by
 by_cases e:b=l
 ·subst e;rw[h]at hb;cases hb
 ·rw[aCN e];exact hb
theorem lO.monoc{M M':jW}(hm:mlc M M'):∀{ps:List VP} {vs:List Value},lO M ps vs→lO M' ps vs
 |[],[],_=>trivial
 |_::_,_::_,h=>⟨VP.monoc hm h.1,lO.monoc hm h.2⟩
 |[],_::_,h=>h.elim
 |_::_,[],h=>h.elim
theorem HA.ok.notin{e:HA}{M:jW}{w:World}{l:Nat}{o:Obj}(h:e.ok M w)(f:M l=some o):e.β≠some l:=fun e=>by
 have:=h.2 l e;rw[f]at this;cases this
theorem HA.ok.less{e:HA}{M:jW}{w:World}{l:Nat}{r:Loop}(h:e.ok M w)(f:M l=some (.loop r)):e.ok (M.less l) w:=by
 obtain⟨⟨vs,how,hall⟩,j⟩:=h;refine⟨⟨vs,how,hall.monoc (aIr f)⟩,fun b hb=>?_⟩;by_cases e:b=l
 ·rw[e];exact zU M l
 ·rw[aBJ e];exact j b hb
theorem St.less{S:Sx}{M:jW}{w:World}{H:List HA}{l:Nat}{r:Loop}(h:St S M w H)(f:M l=some (.loop r))(j:S.M0 l=none)(hB:l∈S.B):St S (M.less l) w H:=by
 refine⟨fun b o hb=>?_,fun b o hb=>?_,h.keep,fun b hb hnb=>?_,h.size,h.os,h.tape,h.output,fun e he=>(h.own e he).less f,h.fresh,h.nodup⟩
 ·by_cases e:b=l
  ·subst e;rw[j]at hb;cases hb
  ·rw[aBJ e];exact h.le0 b o hb
 ·by_cases e:b=l
  ·subst e;rw[zU]at hb;cases hb
  ·rw[aBJ e]at hb;exact h.mem b o hb
 ·rw[aBJ (fun e=>by subst e;exact hnb hB)];exact h.new b hb hnb
theorem St.more{S:Sx}{M:jW}{w:World}{H:List HA}{l:Nat}{o:Obj}(h:St S M w H)(f:M l=none)(hw:w.heap[l]?=some o)(hB:l∈S.B∨S.w0.heap.size≤l)(hH:∀e∈H,e.β≠some l):St S (M.more l o) w H:=by
 refine⟨h.le0.trans (aB4 f),fun b k hb=>?_,h.keep,fun b hb hnb=>?_,h.size,h.os,h.tape,h.output,fun e he=>?_,h.fresh,h.nodup⟩
 ·by_cases e:b=l
  ·subst e;rw[aCF]at hb;cases hb;exact hw
  ·rw[aCN e]at hb;exact h.mem b k hb
 ·rw[aCN (fun e=>by
   rcases hB with j|j
   ·subst e;exact hnb j
   ·omega)]
  exact h.new b hb hnb
 ·obtain⟨⟨vs,how,hall⟩,q⟩:=h.own e he;exact⟨⟨vs,how,hall.mono (aB4 f)⟩,fun b hb=>by rw[aCN (fun x=>by subst x;exact hH e he hb)];exact q b hb⟩
theorem St.turn{S:Sx}{M:jW}{w:World}{H:List HA}{l:Nat}(o:Obj)(h:St S M w H)(j:M l=none)(hB:l∈S.B∨S.w0.heap.size≤l)(hH:∀e∈H,e.β≠some l):St S M (w.putObj l o) H:=by
 refine⟨h.le0,fun b k hb=>?_,fun b hb hnb=>?_,h.new,by simpa using h.size,h.os,h.tape,h.output,fun e he=>?_,h.fresh,h.nodup⟩
 ·rw[World.putObj_heap_other (fun e=>by subst e;rw[j]at hb;cases hb)];exact h.mem b k hb
 ·rw[World.putObj_heap_other (fun e=>by
   rcases hB with f|f
   ·subst e;exact hnb f
   ·omega)]
  exact h.keep b hb hnb
 ·obtain⟨⟨vs,how,hall⟩,q⟩:=h.own e he;exact⟨⟨vs,aCz how fun b hb=>World.putObj_heap_other (fun x=>by subst x;exact hH e he hb),hall⟩,q⟩
theorem St.callB{S:Sx}{M M':jW}{w w':World}{H Hin Hr Ho:List HA}{is js:List Nat}(h:St S M w H)(G:cP H is=some Hin)(u:cP H js=some Hr)(I:(is++js).Nodup)
  {P:Program}{N:NX}{B:List Nat}(k:St ⟨P,w,M,B,N⟩ M' w' Ho)(hB:∀b∈B,b∈Hin.filterMap HA.β∨((b∈S.B∨S.w0.heap.size≤b)∧∀e∈H,e.β≠some b)):St S M' w' (Ho++Hr):=by
 have hin:∀e∈Hin,e∈H:=fun e he=>by
  obtain⟨j,hje⟩:=List.getElem?_of_mem he;obtain⟨i,_,q⟩:=mP G j e hje;exact List.mem_of_getElem? q
 have hrm:∀e∈Hr,e∈H:=fun e he=>by
  obtain⟨j,hje⟩:=List.getElem?_of_mem he;obtain⟨i,_,q⟩:=mP u j e hje;exact List.mem_of_getElem? q
 have s:∀b,b∈B→S.w0.heap.size≤b∨b∈S.B:=fun b hb=>by
  rcases hB b hb with hb|hb
  ·obtain⟨e,he,heb⟩:=List.mem_filterMap.1 hb;exact h.fresh e (hin e he) b heb
  ·exact hb.1.symm
 have hdis:∀e∈Hr,∀b,e.β=some b→b∉B:=fun e he b hb hm=>by
  rcases hB b hm with hm|hm
  ·obtain⟨x,z,hxb⟩:=List.mem_filterMap.1 hm;obtain⟨j1,f⟩:=List.getElem?_of_mem he;obtain⟨j2,F⟩:=List.getElem?_of_mem z;obtain⟨i1,K,g1⟩:=mP u j1 e f;obtain⟨i2,L,O⟩:=mP G j2 x F;have:=zV h.nodup g1 O hb hxb;subst this;exact(List.nodup_append.1 I).2.2 i1 (List.mem_of_getElem? L) i1 (List.mem_of_getElem? K) rfl
  ·exact hm.2 e (hrm e he) hb
 have hlt:∀e∈Hr,∀b,e.β=some b→b<w.heap.size:=fun e he b hb=>(h.own e (hrm e he)).lt hb
 have hr:St S M w Hr:=h.pick u (List.nodup_append.1 I).2.1;refine⟨h.le0.trans k.le0,k.mem,fun b hb hnb=>?_,fun b hb hnb=>?_,Nat.le_trans h.size k.size,k.os.trans h.os,k.tape.trans h.tape,k.output.trans h.output,fun e he=>?_,fun e he b hb=>?_,?_⟩
 ·rw[k.keep b (Nat.lt_of_lt_of_le hb h.size) (fun hm=>by rcases s b hm with f|f;omega;exact hnb f)];exact h.keep b hb hnb
 ·rw[k.new b (Nat.lt_of_lt_of_le hb h.size) (fun hm=>by rcases s b hm with f|f;omega;exact hnb f)];exact h.new b hb hnb
 ·rcases List.mem_append.1 he with he|he
  ·exact k.own e he
  ·obtain⟨⟨vs,how,hall⟩,hnone⟩:=hr.own e he;refine⟨⟨vs,aCz how (fun b hb=>k.keep b (hlt e he b hb) (hdis e he b hb)),bJ.mono k.le0 hall⟩,fun b hb=>?_⟩;rw[k.new b (hlt e he b hb) (hdis e he b hb)];exact hnone b hb
 ·rcases List.mem_append.1 he with he|he
  ·rcases k.fresh e he b hb with f|f
   ·exact .inl (Nat.le_trans h.size f)
   ·exact s b f
  ·exact hr.fresh e he b hb
 ·rw[List.filterMap_append];refine List.nodup_append.2 ⟨k.nodup,hr.nodup,fun x z y U hxy=>?_⟩;subst hxy;obtain⟨e,he,heb⟩:=List.mem_filterMap.1 z;obtain⟨J,t,heb'⟩:=List.mem_filterMap.1 U;rcases k.fresh e he x heb with f|f
  ·have F:=hlt J t x heb';exact absurd f (by simpa using F)
  ·exact hdis J t x heb' f
def RdP(P:Program)(w:World)(M:jW)(B:List Nat)(l:Nat)(x:LX)(jump:Nat→Code)(post:Nat→List HA→Prop)(w':World)(j:Nat):Prop:=
 ∃M' Ho,post j Ho∧w'.heap[l]?=some (rcS x jump j)∧St ⟨P,w,M,l::B,0⟩ M' w' Ho∧M' l=none∧∀e∈Ho,e.β≠some l
structure CtY (P:Program) (l:Nat) (x:LX) (jump:Nat→Code) (Mb:jW) (Hin:List HA) (pre:List VP) (post:Nat→List HA→Prop):Prop where
 run:∀M w (args:Array Value),mlc Mb M→Mok M w→(∀e∈Hin,e.ok M w)→(Hin.filterMap HA.β).Nodup→lO M pre args.toList→w.heap[l]?=some (rcS x jump 0)→M l=none→(∀e∈Hin,e.β≠some l)→
  YieldAt Fence.wide 0 P l args w fun e w'=>∃j,e=.returned (.bool (Nat.beq j 0))∧RdP P w M (Hin.filterMap HA.β) l x jump post w' j
section
variable {S:Sx} {κ:Kt} {H H':List HA} {E:sE} {ops:Array Oper} {rest:List Oper} {o:Oper}
abbrev Sx.rc (S:Sx) (l:Nat) (o:Obj):Sx:=⟨S.P,S.w0,S.M0,S.B,⟨S.N.n,S.N.fr,S.N.rd,some (l,o)⟩⟩
theorem St.reS{S:Sx}{M:jW}{w:World}{H:List HA}(h:St S M w H)(N:NX):St ⟨S.P,S.w0,S.M0,S.B,N⟩ M w H:=
 ⟨h.le0,h.mem,h.keep,h.new,h.size,h.os,h.tape,h.output,h.own,h.fresh,h.nodup⟩
theorem aOm{l d:Nat}{x:LX}{jump:Nat→Code}{Hin Hr:List HA}{post:Nat→List HA→Prop}{a:Act}{w w':World}{M:jW}{j:Nat}(is js:List Nat)(hrc:S.N.rc=some (l,rcS x jump 0))(hlB:l∈S.B)(F:S.M0 l=none)
  (G:cP H is=some Hin)(z:cP H js=some Hr)(I:(is++js).Nodup)(hst:St S M w H)(hsat:Sat S.N M a E)(J:o.dst=some d)(K:Nat.blt d S.N=true)(hr:RdP S.P w (M.less l) (Hin.filterMap HA.β) l x jump post w' j):
  ∃Ho,post j Ho∧hs (S.rc l (rcS x jump j)) (Ho++Hr) ((d,.vc (pB (Nat.beq j 0)))::E) (a.put o.dst (.bool (Nat.beq j 0))) w':=by
 obtain⟨M',Ho,hp,f,hst',hno,h⟩:=hr;have hM:M l=some (rcS x jump 0):=hsat.defers.2.2 l _ hrc;obtain⟨V,q⟩:=aD0 x jump 0;rw[q]at hM;have hH:∀e∈H,e.β≠some l:=fun e he=>(hst.own e he).notin hM
 have hless:=hst.less hM F hlB;have hcall:=hless.callB (is:=is) (js:=js) G z I hst' fun b hb=>by
  rcases List.mem_cons.1 hb with rfl|hb
  ·exact .inr ⟨.inl hlB,hH⟩
  ·exact .inl hb
 have s:∀e∈Ho++Hr,e.β≠some l:=fun e he=>by
  rcases List.mem_append.1 he with he|he
  ·exact h e he
  ·obtain⟨k,L⟩:=List.getElem?_of_mem he;obtain⟨i,_,O⟩:=mP z k e L;exact hH e (List.mem_of_getElem? O)
 have hfin:=hcall.more hno f (.inl hlB) s;have hmc:mlc M (M'.more l (rcS x jump j)):=(aIr hM).trans (hst'.le0.trans (aB4 hno)).c;have hne:∀b ob,M b=some ob→b≠l→M'.more l (rcS x jump j) b=some ob:=fun b ob hb e=>by
  rw[aCN e];exact hst'.le0 b ob (by show M.less l b=_;rw[aBJ e];exact hb)
 refine⟨Ho,hp,_,hfin.reS _,?_⟩;rw[J];refine Sat.put (N:=(S.rc l (rcS x jump j)).N) ⟨hsat.size,⟨fun dd hdd=>?_,hsat.defers.2.1,fun l' X e=>?_⟩,fun d p U=>?_⟩ K rfl
 ·obtain⟨D,t,u,y⟩:=hsat.defers.1 dd hdd;exact⟨D,t,u,hne D _ y fun e=>by subst e;rw[hM]at y;cases y⟩
 ·simp only[Option.some.injEq,Prod.mk.injEq]at e;obtain⟨rfl,rfl⟩:=e;exact aCF _ _ _
 ·obtain⟨v,t,u⟩:=hsat.get d p U;exact⟨v,t,VP.monoc hmc u⟩
theorem aMV{l:Nat}{x:LX}{jump:Nat→Code}{Mb:jW}{Hin:List HA}{pre:List VP}{post:Nat→List HA→Prop}{xs:List Operand}{y:Operand}{ts:Array TypeId}{a:Act}{w:World}{M:jW}{K:Act→World→Prop}{Q:Exit→Act→World→Prop}(is:List Nat)(z:o.op=.call {callee:=.value y,args:=xs.toArray,argTypes:=ts})(c:CtY S.P l x jump Mb Hin pre post)(hrc:S.N.rc=some (l,rcS x jump 0))(G:S.M0 l=none)(hlB:l∈S.B)(q:mlc Mb S.M0)
  (I:cP H is=some Hin)(J:is.Nodup)(hst:St S M w H)(hsat:Sat S.N M a E)(L:xF E ((y,.vc (pY l))::xs.zip pre))(O:xs.length=pre.length)
  (k:∀j w',RdP S.P w (M.less l) (Hin.filterMap HA.β) l x jump post w' j→K (a.put o.dst (.bool (Nat.beq j 0))) w'):o.wpIn S.F 0 S.P a w K Q:=by
 have hins:=xF.ins hsat L;have hall:=lO.of_ins O hins.2;have U:a.eval y=.func (.yield l) #[] #[]:=hins.1;have hM:M l=some (rcS x jump 0):=hsat.defers.2.2 l _ hrc;obtain⟨X,s⟩:=aD0 x jump 0;have f:=hM;rw[s]at f;have hin:=hst.pick I J;have hmc:=aIr f;obtain⟨fn,tm,asg,bd,t,u⟩:=c.run (M.less l) w (xs.map a.eval).toArray ((q.trans hst.le0.c).trans hmc) (hst.less f G hlB).mem (fun e he=>(hin.own e he).less f) hin.nodup (by simpa using hall.monoc hmc) (hst.mem l _ hM) (zU M l) (fun e he=>(hin.own e he).notin f);have V:(execOp a.eval o).run S.P w=.ok (.round l fn tm asg bd) w:=by
  simp[execOp,z,resolve,Deferred.ofValue,U,invoke,t]
 refine⟨fun _ _=>trivial,?_⟩;rw[aD7 _ V (fun d h=>by cases h)];refine⟨fun h=>by simp[Fence.wide]at h,RoundIn.mono (F:=Fw S.N.rd) u fun e w' h=>?_⟩;obtain⟨j,rfl,hp⟩:=h;exact k j w' hp
theorem aVr{l d:Nat}{x:LX}{jump:Nat→Code}{Mb:jW}{Hin Hr:List HA}{pre:List VP}{post:Nat→List HA→Prop}{xs:List Operand}{y:Operand}{ts:Array TypeId}(is js:List Nat)(t:o.op=.call {callee:=.value y,args:=xs.toArray,argTypes:=ts})(c:CtY S.P l x jump Mb Hin pre post)(h:S.M0 l=none)(f:mlc Mb S.M0)(u:xF E ((y,.vc (pY l))::xs.zip pre))(k:cP H is=some Hin)(z:cP H js=some Hr)
  (k0:∀Ho,post 0 Ho→WL S ops κ rest (Ho++Hr) ((d,.vc (pB true))::E))(F:∀j Ho,post (j+1) Ho→WL (S.rc l (rcS x jump (j+1))) ops κ rest (Ho++Hr) ((d,.vc (pB false))::E))
  (q:(is++js).Nodup:=by decide)(hrc:S.N.rc=some (l,rcS x jump 0):=by rfl)(hlB:l∈S.B:=by exact List.mem_cons_self)(G:xs.length=pre.length:=by rfl)(I:o.dst=some d:=by rfl)(J:o.guard=none:=by rfl)(L:Nat.blt d S.N=true:=by rfl):WL S ops κ (o::rest) H E:=by
 rintro a w ⟨M,hst,hsat⟩;refine wpListIn_plain J fun K s=>aMV is t c hrc h hlB f k (List.nodup_append.1 q).1 hst hsat u G fun j w' hr=>?_
 obtain⟨Ho,hp,hh⟩:=aOm is js hrc hlB h k z q hst hsat I L hr;cases j with
 |zero=>
  refine s _ _ (k0 Ho hp _ _ ?_);have e:S.rc l (rcS x jump 0)=S:=by
   cases S with|mk P w0 M0 B N=>cases N with|mk n fr rd rc=>cases hrc;rfl
  rw[e]at hh;exact hh
 |succ j=>exact s _ _ (F j Ho hp _ _ hh)
theorem aUK{l d jg dj:Nat}{bg:Bool}{og:Oper}{x:LX}{jump:Nat→Code}{Mb:jW}{Hin Hr:List HA}{pre:List VP}{post:Nat→List HA→Prop}{xs:List Operand}{y:Operand}{ts:Array TypeId}(is js:List Nat)(t:o.op=.call {callee:=.value y,args:=xs.toArray,argTypes:=ts})(c:CtY S.P l x jump Mb Hin pre post)(h:S.M0 l=none)(f:mlc Mb S.M0)(u:xF E ((y,.vc (pY l))::xs.zip pre))(k:cP H is=some Hin)(z:cP H js=some Hr)
  (k0:∀Ho,post 0 Ho→WL S ops κ rest (Ho++Hr) ((d,.vc (pB true))::E))(F:∀j Ho,post (j+1) Ho→WL (S.rc l (rcS x jump (j+1))) ops κ rest (Ho++Hr) ((d,.vc (pB false))::E))
  (q:(is++js).Nodup:=by decide)(hrc:S.N.rc=some (l,rcS x jump 0):=by rfl)(hlB:l∈S.B:=by exact List.mem_cons_self)(G:xs.length=pre.length:=by rfl)(I:o.dst=some d:=by rfl)(J:o.guard=some (jg,bg):=by rfl)(L:ops[jg]?=some og:=by rfl)(hdj:og.dst=some dj:=by rfl)(hlk:jS E dj=some (.vc (pB bg)):=by rfl)(O:Nat.blt d S.N=true:=by rfl):WL S ops κ (o::rest) H E:=by
 rintro a w ⟨M,hst,hsat⟩;refine wpListIn_step fun K s=>?_
 rw[if_pos (by simp[Region.wanted,J,aDv hsat L hdj hlk])];refine aMV is t c hrc h hlB f k (List.nodup_append.1 q).1 hst hsat u G fun j w' hr=>?_
 obtain⟨Ho,hp,hh⟩:=aOm is js hrc hlB h k z q hst hsat I O hr;cases j with
 |zero=>
  refine s _ _ (k0 Ho hp _ _ ?_);have e:S.rc l (rcS x jump 0)=S:=by
   cases S with|mk P w0 M0 B N=>cases N with|mk n fr rd rc=>cases hrc;rfl
  rw[e]at hh;exact hh
 |succ j=>exact s _ _ (F j Ho hp _ _ hh)
end
structure CtI (P:Program) (f l:Nat) (x:LX) (jump:Nat→Code) (Mb:jW) (Hin:List HA) (pre:List VP) (post:Nat→List HA→Prop):Prop where
 ok:aUg P f
 run:∀M w (args:Array Value),mlc Mb M→Mok M w→(∀e∈Hin,e.ok M w)→(Hin.filterMap HA.β).Nodup→lO M pre args.toList→w.heap[l]?=some (rcS x jump 0)→M l=none→(∀e∈Hin,e.β≠some l)→
  Calls P f args w fun e w'=>∃v j,e=.returned v∧RdP P w M (Hin.filterMap HA.β) l x jump post w' j
def RpI(P:Program)(w0:World)(M0:jW)(B:List Nat)(l:Nat)(x:LX)(jump:Nat→Code)(post:Nat→List HA→Prop):Ending→World→Prop:=fun e w'=>∃v j,e=.returned v∧RdP P w0 M0 B l x jump post w' j
theorem aHH{P:Program}{f l:Nat}{x:LX}{jump:Nat→Code}{Mb:jW}{fn:Func}{c:Code}{Hin:List HA}{pre:List VP}{post:Nat→List HA→Prop}{N:Nat}(t:P.funcs[f]?=some fn)(hb:fn.body=some c)(hname:(fn.name== "runtime.NumGoroutine")=false)(u:fn.ntmps=N)(hpre:Nat.ble pre.length N=true)
  (h:∀w0 M0,M0 l=none→mlc Mb M0→WC ⟨P,w0,M0,l::Hin.filterMap HA.β,⟨N,fun D=>w0.heap.size≤D∧M0 D=none,none,some (l,rcS x jump 0)⟩⟩ c (.base (aGV P fn (RpI P w0 M0 (Hin.filterMap HA.β) l x jump post))) Hin (aEX 0 pre)):CtI P f l x jump Mb Hin pre post:=by
 refine⟨⟨fn,t,hname,by simp[hb]⟩,fun M w args k hm hown hnd hall y j hH=>(callsIn_wide (n:=0)).1 (callsIn_of_wp_marks t hb trivial (h w M j k _ w ⟨M.more l (rcS x jump 0),?_,?_⟩))⟩
 ·refine St.more (S:=⟨P,w,M,l::Hin.filterMap HA.β,_⟩) ⟨oQ.refl M,hm,fun _ _ _=>rfl,fun _ _ _=>rfl,Nat.le_refl _,rfl,rfl,rfl,hown,fun e he b q=>.inr (List.mem_cons_of_mem _ (List.mem_filterMap.2 ⟨e,he,q⟩)),hnd⟩ j y (.inl List.mem_cons_self) hH
 ·have hln:=hall.len;have hle:pre.length≤N:=by simpa using hpre
  refine⟨?_,⟨fun d s=>(by cases s),List.nodup_nil,fun l' o e=>?_⟩,fun d p s=>?_⟩
  ·subst u;simp only[Array.length_toList]at hln;simp;omega
  ·simp only[Option.some.injEq,Prod.mk.injEq]at e;obtain⟨rfl,rfl⟩:=e;exact aCF _ _ _
  ·obtain⟨_,hp⟩:=aDz pre 0 d p s;obtain⟨v,hv,hpv⟩:=hall.at d (by simpa using hp);refine⟨v,?_,VP.mono (aB4 j) hpv⟩;have hdl:d<args.size:=by
    have:=(List.getElem?_eq_some_iff.1 hv).1;simpa using this
   rw[Array.getElem?_append_left hdl];simpa using hv
section
variable {H:List HA} {E:sE}
theorem aUk{P:Program}{w0:World}{M0:jW}{B:List Nat}{N:NX}{l:Nat}{x:LX}{jump:Nat→Code}{post:Nat→List HA→Prop}{j:Nat}{M:jW}{w:World}{Ho:List HA}(h:St ⟨P,w0,M0,l::B,N⟩ M w Ho)(hM:M l=some (rcS x jump j))(q:M0 l=none)(hp:post j Ho):RdP P w0 M0 B l x jump post w j:=by
 obtain⟨s,k⟩:=aD0 x jump j;have f:=hM;rw[k]at f;exact⟨M.less l,Ho,hp,h.mem l _ hM,(h.less f q List.mem_cons_self).reS 0,zU M l,fun e he=>(h.own e he).notin f⟩
theorem aFO{P:Program}{fn:Func}{w0:World}{M0:jW}{B:List Nat}{l:Nat}{x:LX}{jump:Nat→Code}{post:Nat→List HA→Prop}{N:NX}{e:Exit}{Ho:List HA}(j:Nat)(he:e=.ret∨e=.normal)(hrs:fn.results=#[])(s:M0 l=none)(bU:∀M w,St ⟨P,w0,M0,l::B,N⟩ M w H→St ⟨P,w0,M0,l::B,N⟩ M w Ho)(hpost:post j Ho)(hrc:N.rc=some (l,rcS x jump j):=by rfl)(hfr:∀D,N.fr D→w0.heap.size≤D∧M0 D=none:=by exact fun _ h=>h):
  WX ⟨P,w0,M0,l::B,N⟩ e (.base (aGV P fn (RpI P w0 M0 B l x jump post))) H E:=by
 rintro a w ⟨M,t,f⟩;have hM:M l=some (rcS x jump j):=f.defers.2.2 l _ hrc;have key:LeavesInM Fence.wide 0 P fn a.tmps (RpI P w0 M0 B l x jump post) a.defers .returning w:=by
  refine aCn (S:=⟨P,w0,M0,l::B,N⟩) a.defers M w t (fun d u=>?_) f.defers.2.1 fun M' w' hmd k=>?_
  ·obtain⟨D,y,z,F⟩:=f.defers.1 d u;exact⟨D,y,hfr D z,F⟩
  have hres:(results fn a.tmps).run P w'=.ok (.tuple #[]) w':=by
   have e:results fn a.tmps=(do let vs ←fn.results.mapM (aFV a.tmps);pure (if h:vs.size=1 then vs[0] else .tuple vs)):=rfl;rw[e,hrs];simp
  refine⟨_,hres,_,j,rfl,aUk (bU _ _ k) (hmd l _ hM fun ds=>?_) s hpost⟩;obtain⟨G,q⟩:=aD0 x jump j;rw[q];simp
 rcases he with rfl|rfl<;>exact key
theorem aBa{S:Sx}{Ho:List HA}(is:List Nat)(hp:cP H is=some Ho)(e:is.Nodup:=by decide):∀M w,St S M w H→St S M w Ho:=fun M w h=>h.pick hp e
theorem aEH{S:Sx}{R Ho:List HA}(m:Nat)(is:List Nat)(e:H.drop m=R)(hp:cP (H.take m) is=some Ho)(f:is.Nodup:=by decide):∀M w,St S M w H→St S M w (Ho++R):=fun M w h=>by
 rw[←List.take_append_drop m H,e]at h;exact h.split hp f
def TE(n:Nat)(E:sE)(Mb:jW)(tmps:Array Value):Prop:=tmps.size=n∧∀d p,jS E d=some p→∃v,tmps[d]?=some v∧p.h Mb v
def RpR(P:Program)(w0:World)(M0:jW)(B:List Nat)(l:Nat)(x:LX)(jump:Nat→Code)(post:Nat→List HA→Prop):Ending→World→Prop:=fun e w'=>∃j,e=.returned (.bool (Nat.beq j 0))∧RdP P w0 M0 B l x jump post w' j
def Qas(P:Program)(l:Nat)(body:Code)(R:Ending→World→Prop):Exit→Act→World→Prop:=
 Exit.then (fun a₁ w₁=>∃w₂,(Instr.beginRound l).run P w₁=.ok () w₂∧body.wpIn (Fw (some l)) 0 P (roundPost P l R) a₁ w₂) (fun _ _ _=>False)
theorem aH3{P:Program}{l n t:Nat}{x:LX}{jump:Nat→Code}{Mb:jW}{Hin:List HA}{p:VP}{post:Nat→List HA→Prop}(y:TE n E Mb x.tmps)(hps:x.ps=#[t])(F:Nat.blt t n=true)
  (h:∀w0 M0,M0 l=none→mlc Mb M0→WC ⟨P,w0,M0,l::Hin.filterMap HA.β,⟨n,fun _=>False,some l,some (l,rcS x jump 0)⟩⟩ x.asg (.base (Qas P l x.bd (RpR P w0 M0 (Hin.filterMap HA.β) l x jump post))) Hin ((t,p)::E)):CtY P l x jump Mb Hin [p] post:=by
 refine⟨fun M w args j hm hown hnd hall z f hH=>?_⟩;obtain⟨v,rfl⟩:∃v,args=#[v]:=by
  have hln:=hall.len
  match args,hln with
  |⟨[v]⟩,_=>exact⟨v,rfl⟩
 have hv:p.h M v:=hall.1;have G:=run_yield (P:=P) (args:=#[v]) (r:=x.at .ready none) z (by show 1=x.ps.size;rw[hps];rfl);refine⟨_,_,_,_,G,roundIn_of_wpIn trivial ?_⟩;refine h w M f j _ w ⟨M.more l (rcS x jump 0),?_,?_⟩
 ·exact St.more (S:=⟨P,w,M,l::Hin.filterMap HA.β,_⟩) ⟨oQ.refl M,hm,fun _ _ _=>rfl,fun _ _ _=>rfl,Nat.le_refl _,rfl,rfl,rfl,hown,fun e he b k=>.inr (List.mem_cons_of_mem _ (List.mem_filterMap.2 ⟨e,he,k⟩)),hnd⟩ f z (.inl List.mem_cons_self) hH
 ·have hmc:mlc Mb (M.more l (rcS x jump 0)):=j.trans (aB4 f).c;have htm:(((x.at .ready none).params.zip #[v]).foldl (fun t (p,v)=>t.setIfInBounds p v) (x.at .ready none).tmps)=x.tmps.setIfInBounds t v:=by
   show((x.ps.zip #[v]).foldl _ x.tmps)=_;rw[hps];simp
  have I:Sat ⟨n,fun _=>False,some l,some (l,rcS x jump 0)⟩ (M.more l (rcS x jump 0)) {tmps:=x.tmps,defers:=[]} E:=
   ⟨y.1,⟨fun d s=>(by cases s),List.nodup_nil,fun l' o e=>by
    simp only[Option.some.injEq,Prod.mk.injEq]at e;obtain⟨rfl,rfl⟩:=e;exact aCF _ _ _⟩,fun d q s=>let ⟨u,J,K⟩:=y.2 d q s;⟨u,J,VP.monoc hmc K⟩⟩
  have L:=I.put (d:=t) (v:=v) (p:=p) F (VP.mono (aB4 f) hv);show Sat _ _ {tmps:=_,defers:=[]} _;rw[htm];exact L
theorem aMc{P:Program}{w0:World}{M0:jW}{B:List Nat}{n l:Nat}{fr:Nat→Prop}{x:LX}{jump:Nat→Code}{R:Ending→World→Prop}{body:Code}(u:M0 l=none)
  (h:WC ⟨P,w0,M0,l::B,⟨n,fr,some l,some (l,rcB x)⟩⟩ body (.base (roundPost P l R)) H E):WX ⟨P,w0,M0,l::B,⟨n,fr,some l,some (l,rcS x jump 0)⟩⟩ .normal (.base (Qas P l body R)) H E:=by
 rintro a w ⟨M,j,f⟩;have hM:M l=some (.loop (x.at .ready none)):=f.defers.2.2 l _ rfl;have hH:∀e∈H,e.β≠some l:=fun e he=>(j.own e he).notin hM
 have hlt:=(Array.getElem?_eq_some_iff.1 (j.mem l _ hM)).1;refine⟨w.putObj l (rcB x),run_beginRound (j.mem l _ hM) rfl,h a _ ⟨(M.less l).more l (rcB x),?_,?_⟩⟩
 ·exact((((j.less hM u List.mem_cons_self).turn (rcB x) (zU M l) (.inl List.mem_cons_self) hH).more (zU M l) (World.putObj_heap_same hlt) (.inl List.mem_cons_self) hH)).reS _
 ·have hmc:mlc M ((M.less l).more l (rcB x)):=(aIr hM).trans (aB4 (zU M l)).c;refine⟨f.size,⟨fun d k=>?_,f.defers.2.1,fun l' o e=>?_⟩,fun d p k=>let ⟨v,q,s⟩:=f.get d p k;⟨v,q,VP.monoc hmc s⟩⟩
  ·obtain⟨D,q,s,t⟩:=f.defers.1 d k;have hne:D≠l:=fun e=>by subst e;rw[hM]at t;cases t
   exact⟨D,q,s,by rw[aCN hne,aBJ hne];exact t⟩
  ·simp only[Option.some.injEq,Prod.mk.injEq]at e;obtain⟨rfl,rfl⟩:=e;exact aCF _ _ _
theorem aKS{P:Program}{w0:World}{M0:jW}{B:List Nat}{N:NX}{l:Nat}{x:LX}{jump:Nat→Code}{post:Nat→List HA→Prop}{M:jW}{w:World}{Ho:List HA}(j:Nat)(h:St ⟨P,w0,M0,l::B,N⟩ M w Ho)(hM:M l=some (rcB x))(f:M0 l=none)(hp:post j Ho):RdP P w0 M0 B l x jump post (w.putObj l (rcS x jump j)) j:=by
 have hH:∀e∈Ho,e.β≠some l:=fun e he=>(h.own e he).notin hM
 have hlt:=(Array.getElem?_eq_some_iff.1 (h.mem l _ hM)).1;exact⟨M.less l,Ho,hp,World.putObj_heap_same hlt,((h.less hM f List.mem_cons_self).turn _ (zU M l) (.inl List.mem_cons_self) hH).reS 0,zU M l,hH⟩
theorem aLX{P:Program}{w0:World}{M0:jW}{B:List Nat}{N:NX}{l:Nat}{x:LX}{jump:Nat→Code}{post:Nat→List HA→Prop}{Ho:List HA}(f:M0 l=none)(bU:∀M w,St ⟨P,w0,M0,l::B,N⟩ M w H→St ⟨P,w0,M0,l::B,N⟩ M w Ho)(hpost:post 0 Ho)(hrc:N.rc=some (l,rcB x):=by rfl):WX ⟨P,w0,M0,l::B,N⟩ .normal (.base (roundPost P l (RpR P w0 M0 B l x jump post))) H E:=by
 rintro a w ⟨M,e,h⟩;have hM:=h.defers.2.2 l _ hrc;exact⟨_,_,run_endRound none (e.mem l _ hM),0,rfl,aKS 0 (bU _ _ e) hM f hpost⟩
theorem aWf{P:Program}{w0:World}{M0:jW}{B:List Nat}{N:NX}{l:Nat}{x:LX}{jump:Nat→Code}{post:Nat→List HA→Prop}{Ho:List HA}(j:Nat)(f:jump j=.ret)(h:M0 l=none)(bU:∀M w,St ⟨P,w0,M0,l::B,N⟩ M w H→St ⟨P,w0,M0,l::B,N⟩ M w Ho)(hpost:post (j+1) Ho)(hrc:N.rc=some (l,rcB x):=by rfl):WX ⟨P,w0,M0,l::B,N⟩ .ret (.base (roundPost P l (RpR P w0 M0 B l x jump post))) H E:=by
 rintro a w ⟨M,e,k⟩;have hM:=k.defers.2.2 l _ hrc;have:=aKS (jump:=jump) (j+1) (bU _ _ e) hM h hpost;refine⟨_,_,run_endRound (some .ret) (e.mem l _ hM),j+1,rfl,?_⟩;rw[←f];exact this
theorem aV0{P:Program}{w0:World}{M0:jW}{B:List Nat}{N:NX}{l id:Nat}{x:LX}{jump:Nat→Code}{post:Nat→List HA→Prop}{Ho:List HA}(j:Nat)(f:jump j=.exit id)(h:M0 l=none)(bU:∀M w,St ⟨P,w0,M0,l::B,N⟩ M w H→St ⟨P,w0,M0,l::B,N⟩ M w Ho)(hpost:post (j+1) Ho)(hrc:N.rc=some (l,rcB x):=by rfl):WX ⟨P,w0,M0,l::B,N⟩ (.exit id) (.base (roundPost P l (RpR P w0 M0 B l x jump post))) H E:=by
 rintro a w ⟨M,e,k⟩;have hM:=k.defers.2.2 l _ hrc;have:=aKS (jump:=jump) (j+1) (bU _ _ e) hM h hpost;refine⟨_,_,run_endRound (some (.exit id)) (e.mem l _ hM),j+1,rfl,?_⟩;rw[←f];exact this
end
section
variable {S:Sx} {κ:Kt} {H:List HA} {E:sE}
theorem aON{rd:Option Nat}{n:Nat}{P:Program}{f:Nat}{args:Array Value}{w:World}{R:Ending→World→Prop}(h:Calls P f args w R):CallsIn (Fw rd) n P f args w R:=(callsIn_wide (n:=n)).2 h
theorem aLA(w:World)(o:Obj)(i:Nat)(h:i<w.heap.size):(w.alloc o).heap[i]?=w.heap[i]?:=by
 show(w.heap.push o)[i]?=w.heap[i]?;rw[Array.getElem?_push,if_neg (Nat.ne_of_lt h)]
theorem aRM{D l:Nat}{w x J:World}{M M':jW}{a:Act}{Hin Hr Ho:List HA}{is js:List Nat}(hDe:D=w.heap.size)(hle:l=w.heap.size+1)(hsz:x.heap.size=w.heap.size+2)(hst:St S M w H)(y:St S M x H)(hsat:Sat S.N M a E)(h1:cP H is=some Hin)(K:cP H js=some Hr)(hn:(is++js).Nodup)(q:M D=none)(z:∀e∈H,∀b,e.β=some b→b<w.heap.size)
  (f:St ⟨S.P,x,M,l::Hin.filterMap HA.β,0⟩ M' J Ho)(hno:M' l=none)(O:∀e∈Ho,e.β≠some l)(U:x.heap[D]?=some (.deferred (some [])))(hrc:S.N.rc=none)(hfr:∀D,S.w0.heap.size≤D∧S.M0 D=none→S.N.fr D):∀V,hs S (Ho++Hr) E {a with defers:=[{target:=.collected D,args:=#[]}]++a.defers} (J.putObj l V):=by
 have hmem:∀{L:List Nat} {X:List HA},cP H L=some X→∀e∈X,e∈H:=fun hp e he=>by
  obtain⟨j,hj⟩:=List.getElem?_of_mem he;obtain⟨i,_,hi⟩:=mP hp j e hj;exact List.mem_of_getElem? hi
 have hlH:∀e∈H,e.β≠some l:=fun e he hb=>by have:=z e he l hb;omega
 have F:∀e∈H,e.β≠some D:=fun e he hb=>by have:=z e he D hb;omega
 have hc:=y.callB (is:=is) (js:=js) h1 K hn f fun b hb=>by
  rcases List.mem_cons.1 hb with rfl|hb
  ·exact .inr ⟨.inr (by have:=hst.size;omega),hlH⟩
  ·exact .inl hb
 have s:D∉l::Hin.filterMap HA.β:=fun hb=>by
  rcases List.mem_cons.1 hb with h|h
  ·omega
  ·obtain⟨e,he,heb⟩:=List.mem_filterMap.1 h;exact F e (hmem h1 e he) heb
 have k:D<x.heap.size:=by omega
 have G:∀b,(b=l∨b=D)→∀e∈Ho++Hr,e.β≠some b:=fun b hb e he=>by
  rcases List.mem_append.1 he with he|he
  ·rcases hb with rfl|rfl
   ·exact O e he
   ·intro heb;rcases f.fresh e he _ heb with h|h
    ·exact absurd h (Nat.not_le.2 k)
    ·exact s h
  ·rcases hb with rfl|rfl
   ·exact hlH e (hmem K e he)
   ·exact F e (hmem K e he)
 have hMD':M' D=none:=(f.new D k s).trans q;have Y:J.heap[D]?=some (.deferred (some [])):=(f.keep D k s).trans U;have hne:D≠l:=by omega
 intro V;have t1:=hc.turn V hno (.inr (by have:=hst.size;omega)) (G l (.inl rfl));have t2:=t1.more hMD' ((World.putObj_heap_other hne).trans Y) (.inr (by have:=hst.size;omega)) (G D (.inr rfl));have hmm:oQ M (M'.more D (.deferred (some []))):=f.le0.trans (aB4 hMD');refine⟨_,t2,hsat.size,⟨fun d t=>?_,?_,fun l' o' e=>by rw[hrc]at e;cases e⟩,fun d p t=>let ⟨v,u,e2⟩:=hsat.get d p t;⟨v,u,VP.mono hmm e2⟩⟩
 ·rcases List.mem_cons.1 t with rfl|t
  ·refine⟨D,rfl,hfr D ⟨by have:=hst.size;omega,?_⟩,aCF _ _ _⟩;cases h0:S.M0 D with
   |none=>rfl
   |some ob=>have:=hst.le0 D ob h0;rw[q]at this;cases this
  ·obtain⟨D',u,e2,I⟩:=hsat.defers.1 d t;exact⟨D',u,e2,hmm _ _ I⟩
 ·refine List.nodup_cons.2 ⟨fun t=>?_,hsat.defers.2.1⟩;obtain⟨D',u,_,I⟩:=hsat.defers.1 _ t;simp only[Deferred.mk.injEq,Target.collected.injEq,and_true]at u;rw[←u,q]at I;cases I
theorem aV2{g gf:Nat}{ps:Array Tmp}{assign body:Code}{cs:List CP}{Hin Hr:List HA}{jump:Nat→Code}{post:Nat→List HA→Prop}(is js:List Nat)(hg:jS E g=some (.vc (pF gf cs)))(I:cP H is=some Hin)(h2:cP H js=some Hr)
  (hit:∀(x:LX) (l:Nat) (Mb:jW),x.ps=ps→x.asg=assign→x.bd=body→TE S.N.n E Mb x.tmps→CtI S.P gf l x jump Mb Hin (.vc (pY l)::cs.map .vc) post)
  (knext:∀Ho,post 0 Ho→WX S .normal κ (Ho++Hr) E)(kstop:∀j Ho,post (j+1) Ho→WC S (jump j) κ (Ho++Hr) E)
  (hn:(is++js).Nodup:=by decide)(hrd:S.N.rd=none:=by rfl)(hrc:S.N.rc=none:=by rfl)(hfr:∀D,S.w0.heap.size≤D∧S.M0 D=none→S.N.fr D:=by exact fun _ h=>h):WC S (.rangeFunc (.tmp g) ps assign body) κ H E:=by
 rintro a w ⟨M,hst,hsat⟩;refine wpIn_rangeFunc fun fn _=>?_
 have hround:S.F.round=none:=hrd;rw[hround];obtain⟨gv,hgv,vs,hgf,hvs⟩:=hsat.get g _ hg;obtain⟨D,t⟩:∃D,D=w.heap.size:=⟨_,rfl⟩;obtain⟨l,hle⟩:∃l,l=w.heap.size+1:=⟨_,rfl⟩;obtain⟨x,J,K,O,u,U⟩:∃x:LX,x.ps=ps∧x.asg=assign∧x.bd=body∧x.tmps=a.tmps∧x.at .ready none={state:=.ready,pending:=none,fn,tmps:=a.tmps,params:=ps,assign,body,defers:=w.heap.size}:=⟨⟨fn,a.tmps,ps,assign,body,w.heap.size⟩,rfl,rfl,rfl,rfl,rfl⟩;obtain⟨q,f⟩:∃q,q=(w.alloc (.deferred (some []))).alloc (.loop (x.at .ready none)):=⟨_,rfl⟩;have V:M D=none:=hst.mem.none (by omega);have Y:M l=none:=hst.mem.none (by omega);have hsz:q.heap.size=w.heap.size+2:=by rw[f];simp
 have hold:∀k,k<w.heap.size→q.heap[k]?=w.heap[k]?:=fun k hk=>by
  rw[f];exact(aLA _ _ k (by simp;omega)).trans (aLA _ _ k hk)
 have hgr:w.grownBy q none:=⟨by rw[f];rfl,by rw[f];rfl,by rw[f];rfl,by omega,fun k hk _=>hold k hk⟩;have hL1:q.heap[l]?=some (rcS x jump 0):=by
  rw[f,hle];have:=World.alloc_heap_new (w.alloc (.deferred (some []))) (.loop (x.at .ready none))
  rwa [World.size_alloc]at this
 have hD1:q.heap[D]?=some (.deferred (some [])):=by
  rw[f,t];exact(aLA _ _ _ (by simp)).trans (World.alloc_heap_new w _)
 have hown:∀e∈H,e.ok M q:=fun e he=>(hst.own e he).kept hgr (fun b _=>by simp)
 have s:St S M q H:=⟨hst.le0,fun b o hb=>by rw[hold b (hst.mem.lt hb)];exact hst.mem b o hb,fun b hb hnb=>by rw[hold b (Nat.lt_of_lt_of_le hb hst.size)];exact hst.keep b hb hnb,hst.new,Nat.le_trans hst.size hgr.size,hgr.os.trans hst.os,hgr.tape.trans hst.tape,hgr.output.trans hst.output,hown,hst.fresh,hst.nodup⟩;have hin:=s.pick I (List.nodup_append.1 hn).1;have y:∀e∈H,∀b,e.β=some b→b<w.heap.size:=fun e he b hb=>(hst.own e he).lt hb
 have hmem:∀{L:List Nat} {X:List HA},cP H L=some X→∀e∈X,e∈H:=fun hp e he=>by
  obtain⟨j,hj⟩:=List.getElem?_of_mem he;obtain⟨i,_,hi⟩:=mP hp j e hj;exact List.mem_of_getElem? hi
 have hit':=hit x l M J K O ⟨by rw[u];exact hsat.size,by rw[u];exact hsat.get⟩;have hAl:lO M (.vc (pY l)::cs.map .vc) (#[Value.func (.yield l) #[] #[]]++vs.toArray).toList:=by
  have e:(#[Value.func (.yield l) #[] #[]]++vs.toArray).toList=.func (.yield l) #[] #[]::vs:=by simp
  rw[e];exact⟨rfl,lO.of_all2 hvs⟩
 have hcall:=hit'.run M q (#[.func (.yield l) #[] #[]]++vs.toArray) (oQ.refl M).c s.mem hin.own hin.nodup hAl hL1 Y (fun e he hb=>by have:=y e (hmem I e he) l hb;omega);have hev:a.eval (.tmp g)=.func (.func gf) #[] vs.toArray:=by
  subst hgf;simp[Act.eval,hgv]
 have henter:(Instr.enterLoop fn a.tmps ps assign body none).run S.P w=.ok (l,[{target:=.collected D,args:=#[]}]) q:=by
  rw[f,hle,t,U];exact run_enterLoop_outer fn a.tmps ps assign body
 refine⟨l,[{target:=.collected D,args:=#[]}],q,{target:=.fn (.func gf) vs.toArray,args:=#[.func (.yield l) #[] #[]]},q,gf,#[.func (.yield l) #[] #[]]++vs.toArray,q,henter,?_,fun _ _=>trivial,?_,fun h=>by simp[Fence.wide]at h,?_⟩
 ·simp only[resolve,hev];simp[go_sem]
 ·simp[invoke,go_sem,o7 hit'.ok]
 ·refine aON (hcall.mono fun e w2 hr=>?_);obtain⟨v,j,rfl,M',Ho,hp,z,G,hno,hHo⟩:=hr;have bU:=aRM (is:=is) (js:=js) (S:=S) (E:=E) t hle hsz hst s hsat I h2 hn V y (G.reN S.P 0) hno hHo hD1 hrc hfr;cases j with
  |zero=>exact⟨none,_,run_endLoop z (by simp[LX.at]),knext Ho hp _ _ (bU _)⟩
  |succ j=>exact⟨some (jump j),_,run_endLoop z (by simp[LX.at]),kstop j Ho hp _ _ (bU _)⟩
theorem aOs{g gf:Nat}{ps:Array Tmp}{assign body:Code}{cs:List CP}(jump:Nat→Code){post:Nat→List HA→Prop}(e:jS E g=some (.vc (pF gf cs)))
  (hit:∀(x:LX) (l:Nat) (Mb:jW),x.ps=ps→x.asg=assign→x.bd=body→TE S.N.n E Mb x.tmps→CtI S.P gf l x jump Mb H (.vc (pY l)::cs.map .vc) post)
  (knext:∀Ho,post 0 Ho→WX S .normal κ Ho E)(kstop:∀j Ho,post (j+1) Ho→WC S (jump j) κ Ho E)
  (hrd:S.N.rd=none:=by rfl)(hrc:S.N.rc=none:=by rfl)(hfr:∀D,S.w0.heap.size≤D∧S.M0 D=none→S.N.fr D:=by exact fun _ h=>h):WC S (.rangeFunc (.tmp g) ps assign body) κ H E:=
 aV2 (List.range' 0 H.length) [] e (aAq H) rfl hit (fun Ho h=>by rw[List.append_nil];exact knext Ho h) (fun j Ho h=>by rw[List.append_nil];exact kstop j Ho h) (by simpa using List.nodup_range' (s:=0) (n:=H.length)) hrd hrc hfr
theorem aUC{c:Code}{X R:List HA}(m:Nat)(is:List Nat)(f:H.drop m=R)(hp:cP (H.take m) is=some X)(k:WC S c κ (X++R) E)(h:is.Nodup:=by decide):WC S c κ H E:=fun a w ⟨M,e,j⟩=>k a w ⟨M,by
 rw[←List.take_append_drop m H,f]at e;exact e.split hp h,j⟩
theorem aRB{c:Code}{X:List HA}(is:List Nat)(hp:cP H is=some X)(k:WC S c κ X E)(e:is.Nodup:=by decide):WC S c κ H E:=fun a w ⟨M,f,h⟩=>k a w ⟨M,f.pick hp e,h⟩
end
section
variable {S:Sx} {κ:Kt} {H H':List HA} {E:sE} {ops:Array Oper} {rest:List Oper} {o:Oper}
theorem aTZ{l d:Nat}{x:LX}{jump:Nat→Code}{Mb:jW}{pre:List VP}{post:Nat→List HA→Prop}{xs:List Operand}{y:Operand}{ts:Array TypeId}(f:o.op=.call {callee:=.value y,args:=xs.toArray,argTypes:=ts})(c:CtY S.P l x jump Mb H pre post)(k:S.M0 l=none)(e:mlc Mb S.M0)(q:xF E ((y,.vc (pY l))::xs.zip pre))
  (k0:∀Ho,post 0 Ho→WL S ops κ rest Ho ((d,.vc (pB true))::E))(t:∀j Ho,post (j+1) Ho→WL (S.rc l (rcS x jump (j+1))) ops κ rest Ho ((d,.vc (pB false))::E))
  (hrc:S.N.rc=some (l,rcS x jump 0):=by rfl)(hlB:l∈S.B:=by exact List.mem_cons_self)(u:xs.length=pre.length:=by rfl)(z:o.dst=some d:=by rfl)(F:o.guard=none:=by rfl)(G:Nat.blt d S.N=true:=by rfl):WL S ops κ (o::rest) H E:=
 aVr (List.range' 0 H.length) [] f c k e q (aAq H) rfl (fun Ho h=>by rw[List.append_nil];exact k0 Ho h) (fun j Ho h=>by rw[List.append_nil];exact t j Ho h) (by simpa using List.nodup_range' (s:=0) (n:=H.length)) hrc hlB u z F G
theorem aRF{l d jg dj:Nat}{bg:Bool}{og:Oper}{x:LX}{jump:Nat→Code}{Mb:jW}{pre:List VP}{post:Nat→List HA→Prop}{xs:List Operand}{y:Operand}{ts:Array TypeId}(f:o.op=.call {callee:=.value y,args:=xs.toArray,argTypes:=ts})(c:CtY S.P l x jump Mb H pre post)(k:S.M0 l=none)(e:mlc Mb S.M0)(q:xF E ((y,.vc (pY l))::xs.zip pre))
  (k0:∀Ho,post 0 Ho→WL S ops κ rest Ho ((d,.vc (pB true))::E))(t:∀j Ho,post (j+1) Ho→WL (S.rc l (rcS x jump (j+1))) ops κ rest Ho ((d,.vc (pB false))::E))
  (hrc:S.N.rc=some (l,rcS x jump 0):=by rfl)(hlB:l∈S.B:=by exact List.mem_cons_self)(u:xs.length=pre.length:=by rfl)(z:o.dst=some d:=by rfl)(F:o.guard=some (jg,bg):=by rfl)(G:ops[jg]?=some og:=by rfl)(hdj:og.dst=some dj:=by rfl)(hlk:jS E dj=some (.vc (pB bg)):=by rfl)(I:Nat.blt d S.N=true:=by rfl):WL S ops κ (o::rest) H E:=
 aUK (List.range' 0 H.length) [] f c k e q (aAq H) rfl (fun Ho h=>by rw[List.append_nil];exact k0 Ho h) (fun j Ho h=>by rw[List.append_nil];exact t j Ho h) (by simpa using List.nodup_range' (s:=0) (n:=H.length)) hrc hlB u z F G hdj hlk I
theorem aVt{α:Type}{C:Cd α}{T:Nat}{X X' A:List HA}{gs:List rC}{rs:List (List α)}{r:List α}{g:rC}{Post:Option Nat→Nat→List HA}{ins:List (Operand×VP)}{out:Option Nat→Nat→VP}(i:Nat)(f:X[i]?=some (hO C g.1 g.2.2 T g.2.1 r))(j:aBh X i=some X')(k:cN gs rs)
  (t:Hv S o ((X'++eJ C T (gs++[g]) (rs++[r]))++A) Post ins out):Hv S o ((X++eJ C T gs rs)++A) Post ins out:=
 ⟨fun M w a h hin K Q q=>t.run M w a (h.perm (by
  rw[aG3 g r k.1,aAH j,←List.append_assoc];have hlt:=(List.getElem?_eq_some_iff.1 f).1;have e:=(List.getElem?_eq_some_iff.1 f).2;have s:(X.eraseIdx i++[hO C g.1 g.2.2 T g.2.1 r]).Perm X:=by
   refine List.perm_append_comm.trans ?_;rw[←e];exact aDI _ _ hlt
  refine List.Perm.append_right A (List.Perm.trans ?_ (s.append_right (eJ C T gs rs)));rw[List.append_assoc,List.append_assoc];exact List.perm_append_comm.append_left _)) hin K Q q⟩
theorem Sat.fz{N:NX}{M M0:jW}{a:Act}{E:sE}{α:Type}{C:Cd α}{xs:List α}{β:Option Nat}{n c:Nat}(h:Sat N M a E)(j:∀v,(pO β n c).h M0 v→(pS C xs).h M v):∀{ds:List Nat},aF5 E (.vc (pO β n c)) ds→Sat N M a (ds.map (fun d=>(d,VP.vc (pS C xs)))++E)
 |[],_=>h
 |d::ds,k=>by
  have ih:=h.fz j k.2;refine⟨ih.size,ih.defers,fun x p f=>?_⟩;simp only[List.map_cons,List.cons_append,jS]at f;by_cases e:d=x
  ·subst e;simp only[Nat.beq_refl,cond_true,Option.some.injEq]at f;subst f;obtain⟨v,hv,hp⟩:=h.get d _ k.1;exact⟨v,hv,j v hp⟩
  ·rw[aAP e]at f;exact ih.get x p f
theorem aJr{α:Type}{C:Cd α}{xs:List α}{β:Option Nat}{c T n:Nat}(i k off:Nat)(ds:List Nat){eb:HA}{ps':List CP}{H1 H2:List HA}(hi:H[i]?=some (hO C β c T n xs))(hn:xs.length=n)(hL:xs.length≤aBZ)
  (O:H[k]?=some eb)(hne:Nat.beq i k=false)(hp:eb.ps[off]?=some (pO β n c))(hps:x0 eb.ps off [pS C xs]=some ps')(h1:z4 H k {eb with ps:=ps'}=some H1)(h2:aBh H1 i=some H2)(hds:aF5 E (.vc (pO β n c)) ds){a:Act}{w:World}(h:hs S H E a w):hs S H2 (ds.map (fun d=>(d,VP.vc (pS C xs)))++E) a w:=by
 obtain⟨M,hst,hsat⟩:=h;subst hn;have hik:i≠k:=fun e=>by subst e;simp at hne
 obtain⟨hle,f⟩:=hst.freeze hi (fun _ _=>.inr trivial);have hebm:=List.mem_of_getElem? O;have hbok:=hst.own _ hebm;obtain⟨⟨us,hou,hau⟩,hnu⟩:=hbok;obtain⟨v,hv,hpv⟩:=hau.at off hp;obtain⟨⟨vs,how,hall⟩,_⟩:=hst.own _ (List.mem_of_getElem? hi);have I:∀v,(pO β xs.length c).h M v→(pS C xs).h (frz M w β) v:=by
  intro v hpv;rcases hpv with U|⟨_,h0,_,a0,rfl⟩
  rotate_left
  ·have z:xs=[]:=List.eq_nil_of_length_eq_zero h0;subst z;exact⟨_,_,rfl,by simp,by simp,fun j x s=>by simp at s⟩
  subst U;rcases how.2 with⟨L,h4⟩|⟨g,cap,cur,L,_,hg,hnc,_,hsz,htake⟩
  ·have z:xs=[]:=List.eq_nil_of_length_eq_zero h4;subst z;exact⟨_,_,rfl,by simp,by simp,fun j x s=>by simp at s⟩
  ·cases β with
   |none=>simp[sv]at L
   |some b=>
    simp only[sv,Option.map_some,Value.slice.injEq,Option.some.injEq,Addr.mk.injEq,and_true,true_and]at L;obtain⟨rfl,rfl⟩:=L;refine⟨_,_,rfl,hL,hnc,fun j x s=>⟨b,0,rfl,?_⟩⟩;refine⟨(vs.drop (j*C.n)).take C.n,?_,fun t u F=>?_⟩
    ·have:=((bJ.mono hle hall).drop (j*C.n)).take C.n
     rwa [aCT C xs j x s]at this
    ·have hM:frz M w (some b) b=some (.cells cur T (0,0)):=by simp[frz,hg]
     rw[List.getElem?_take]at F;split at F
     ·rename_i htn;rw[List.getElem?_drop]at F;simp only[yD,hM,Nat.zero_add];rw[←htake,List.getElem?_take]at F;split at F
      ·simpa using F
      ·cases F
     ·cases F
 have hS:=I v hpv;have hvs:us.set off v=us:=by
  apply List.ext_getElem?;intro j;rw[List.getElem?_set];split
  ·rename_i e;subst e;split
   ·exact hv.symm
   ·rename_i hlt;simp[List.getElem?_eq_none (Nat.not_lt.1 hlt)]
  ·rfl
 have J:bJ (frz M w β) ps' us:=by
  have:=aGj (us:=[v]) hps (bJ.mono hle hau) ⟨hS,trivial⟩;have hoff:off<us.length:=(List.getElem?_eq_some_iff.1 hv).1;have e:us.take off++[v]++us.drop (off+[v].length)=us.set off v:=by
   rw[List.set_eq_take_append_cons_drop,if_pos hoff];simp
  rw[e,hvs]at this;exact this
 refine⟨_,?_,Sat.fz (hsat.mono hle) I hds⟩;rw[aAH h2,aCP h1];have hget:∀(j:Nat),((H.set k {eb with ps:=ps'}).eraseIdx i)[j]?=if j<i then(H.set k {eb with ps:=ps'})[j]? else(H.set k {eb with ps:=ps'})[j+1]?:=fun j=>by rw[List.getElem?_eraseIdx]
 have hmap:∀(j:Nat) x,((H.set k {eb with ps:=ps'}).eraseIdx i)[j]?=some x→∃y,(H.eraseIdx i)[j]?=some y∧x.β=y.β∧(x.ok (frz M w β) w):=by
  intro j x z;have G:∃K,K≠i∧(H.set k {eb with ps:=ps'})[K]?=some x∧(H.eraseIdx i)[j]?=H[K]?:=by
   rw[hget]at z;by_cases s:j<i
   ·rw[if_pos s]at z;exact⟨j,by omega,z,by rw[List.getElem?_eraseIdx,if_pos s]⟩
   ·rw[if_neg s]at z;exact⟨j+1,by omega,z,by rw[List.getElem?_eraseIdx,if_neg s]⟩
  obtain⟨K,hne',q,he⟩:=G;rw[List.getElem?_set]at q;by_cases hkj:k=K
  ·subst hkj;rw[if_pos rfl]at q;split at q
   ·simp only[Option.some.injEq]at q;subst q;refine⟨eb,by rw[he,O],rfl,⟨us,hou,J⟩,fun b hb=>?_⟩;exact(f.own eb (List.mem_of_getElem? (by rw[he,O]))).2 b hb
   ·cases q
  ·rw[if_neg hkj]at q;exact⟨x,by rw[he,q],rfl,f.own x (List.mem_of_getElem? (by rw[he,q]))⟩
 refine⟨f.le0,f.mem,f.keep,f.new,f.size,f.os,f.tape,f.output,fun x z=>?_,fun x z b hb=>?_,y2 fun {j l x y b} s hl z V=>?_⟩
 ·obtain⟨j,s⟩:=List.getElem?_of_mem z;obtain⟨y,_,_,hok⟩:=hmap j x s;exact hok
 ·obtain⟨j,s⟩:=List.getElem?_of_mem z;obtain⟨y,V,X,_⟩:=hmap j x s;exact f.fresh y (List.mem_of_getElem? V) b (X▸hb)
 ·obtain⟨x',G,e1,_⟩:=hmap j x s;obtain⟨y',Y,e2,_⟩:=hmap l y hl;exact zV f.nodup G Y (e1▸z) (e2▸V)
theorem aUs{α:Type}{C:Cd α}{xs:List α}{β:Option Nat}{c T n:Nat}(i k off:Nat)(ds:List Nat){eb:HA}{ps':List CP}{H1 e:List HA}(f:H[i]?=some (hO C β c T n xs))(h:xs.length=n)(j:H[k]?=some eb)(hp:eb.ps[off]?=some (pO β n c))(hps:x0 eb.ps off [pS C xs]=some ps')(q:z4 H k {eb with ps:=ps'}=some H1)(s:aBh H1 i=some e)(hds:aF5 E (.vc (pO β n c)) ds)(kk:WL S ops κ rest e (ds.map (fun d=>(d,VP.vc (pS C xs)))++E))(hne:Nat.beq i k=false:=by rfl):WL S ops κ rest H E:=
 fun a w hh=>kk a w (aJr i k off ds f h (h▸aDO f hh) j hne hp hps q s hds hh)
theorem aTX{α:Type}{C:Cd α}{xs:List α}{β:Option Nat}{c T n:Nat}{e:Exit}(i k off:Nat)(ds:List Nat){eb:HA}{ps':List CP}{H1 f:List HA}(h:H[i]?=some (hO C β c T n xs))(j:xs.length=n)(q:H[k]?=some eb)(hp:eb.ps[off]?=some (pO β n c))(hps:x0 eb.ps off [pS C xs]=some ps')(s:z4 H k {eb with ps:=ps'}=some H1)(t:aBh H1 i=some f)(hds:aF5 E (.vc (pO β n c)) ds)(kk:WX S e κ f (ds.map (fun d=>(d,VP.vc (pS C xs)))++E))(hne:Nat.beq i k=false:=by rfl):WX S e κ H E:=
 fun a w hh=>kk a w (aJr i k off ds h j (j▸aDO h hh) q hne hp hps s t hds hh)
theorem aTx{α:Type}{C:Cd α}{xs:List α}{β:Option Nat}{c T n:Nat}{cd:Code}(i k off:Nat){eb:HA}{ps':List CP}{H1 e:List HA}(f:H[i]?=some (hO C β c T n xs))(h:xs.length=n)(j:H[k]?=some eb)(hp:eb.ps[off]?=some (pO β n c))(hps:x0 eb.ps off [pS C xs]=some ps')(q:z4 H k ⟨eb.β,eb.c,eb.T,eb.sz,eb.n,ps'⟩=some H1)(s:aBh H1 i=some e)(kk:WC S cd κ e E)(hne:Nat.beq i k=false:=by rfl):WC S cd κ H E:=
 fun a w hh=>kk a w (aOU i k off f h (h▸aDO f hh) j hne hp hps q s hh)
def aRd(u v:Int):Option Int:=if v<0 then none else aV (u*2^(min v.toNat 64))
def aQM(u v:Int):Option Int:=if v<0 then none else some (u.fdiv (2^(min v.toNat 64)))
def ian(u v:Int):Int:=IntKind.i64.wrap (((u%18446744073709551616).toNat&&& (v%18446744073709551616).toNat:Nat):Int)
theorem aVw{T T':Nat}{x y:Operand}{u v r:Int}(f:o.op=.binOp .shl T x y T')(h:aRd u v=some r):Tr S o H H [(x,.vc (pI .i64 u)),(y,.vc (pI .i64 v))] (.vc (pI .i64 r)):=by
 refine⟨fun M w a hs e K Q j=>cK (v:=.int .i64 r) (tK f e.1 e.2.1 ?_) (j _ M w (oQ.refl M) hs rfl)⟩;unfold aRd at h;split at h
 ·cases h
 ·rename_i hv;obtain⟨rfl,k,q⟩:=y9 h;simp[binOp,Op.shift,hv,IntKind.bits,aBf k q]
theorem aWr{T T':Nat}{x y:Operand}{u v r:Int}(f:o.op=.binOp .shr T x y T')(h:aQM u v=some r):Tr S o H H [(x,.vc (pI .i64 u)),(y,.vc (pI .i64 v))] (.vc (pI .i64 r)):=by
 refine⟨fun M w a hs e K Q j=>cK (v:=.int .i64 r) (tK f e.1 e.2.1 ?_) (j _ M w (oQ.refl M) hs rfl)⟩;unfold aQM at h;split at h
 ·cases h
 ·rename_i hv;simp only[Option.some.injEq]at h;subst h;simp[binOp,Op.shift,hv,IntKind.bits]
theorem aVM{T T':Nat}{x y:Operand}{u v:Int}(f:o.op=.binOp .and T x y T'):Tr S o H H [(x,.vc (pI .i64 u)),(y,.vc (pI .i64 v))] (.vc (pI .i64 (ian u v))):=
 ⟨fun M w a hs e K Q h=>cK (v:=.int .i64 (ian u v)) (tK f e.1 e.2.1 (by first|rfl|(simp[binOp,Op.intBits,ian,IntKind.bits];rw[BitVec.toNat_and,BitVec.toNat_ofInt,BitVec.toNat_ofInt];rfl))) (h _ M w (oQ.refl M) hs rfl)⟩
theorem aF0{α:Type}{C:Cd α}{xs:List α}{β:Option Nat}{c T n:Nat}(i:Nat)(f:H[i]?=some (hO C β c T n xs))(e:xs.length=n):∀M w,St S M w H→∃Mb,oQ M Mb∧Mok Mb w∧∀v,(pO β n c).h M v→(pS C xs).h Mb v:=fun M w h=>by
 obtain⟨M',g1,j,k⟩:=h.frzv (i:=i) f e;exact⟨M',g1,j.mem,fun v hv=>aLF e hv k⟩
def pK(e:CP)(h k0:Nat):CP:=⟨fun M v=>∃p n c,e.h M (.slice p n c)∧h≤n∧n≤c∧v=.slice (if c=0 then p else p.map (·.add (0*k0))) (h-0) (c-0),
 fun hm ⟨p,n,c,f,j⟩=>⟨p,n,c,e.monoc hm f,j⟩,fun h=>by obtain⟨p,n,c,_,_,_,rfl⟩:=h;rfl⟩
theorem aTT{t e k0 bytes n c i:Nat}{β:Option Nat}{x y:Operand}{f:Int}{k:IntKind}{ea:HA}(J:o.op=.slice t x none (some y) none)(F:TyS S.P t e k0 bytes)(hH:H[i]?=some ea)(hβ:ea.β=β)(hc:ea.c=c)(L:ea.n=n)(O:0≤f)(hl:f≤(n:Int)):
  Tr S o H H [(x,.vc (pO β n c)),(y,.vc (pI k f))] (.vc (pK (pO β n c) f.toNat k0)):=by
 refine⟨fun M w a hs hin K Q U=>?_⟩;have V:a.eval y=.int k f:=hin.2.1;obtain⟨it,hit,X,_⟩:=F.s;obtain⟨⟨vs,how,_⟩,_⟩:=hs.own ea (List.mem_of_getElem? hH);rw[hβ,hc,L]at how;have hform:∃p cc,a.eval x=.slice p n cc∧n≤cc∧(pO β n c).h M (.slice p n cc):=by
  rcases hin.1 with q|⟨Y,z,j,G,q⟩
  ·rcases how.2 with⟨j,I⟩|⟨g,cap,cur,j,_,_,hnc,_⟩
   ·refine⟨none,0,by rw[q,j,I],by omega,.inl (by rw[j,I])⟩
   ·exact⟨some ⟨g,0,none⟩,cap,by rw[q,j],hnc,.inl j.symm⟩
  ·exact⟨some G,0,by rw[q,z],by omega,.inr ⟨Y,z,j,G,by rw[z]⟩⟩
 obtain⟨p,cc,q,hnc,hp⟩:=hform;refine cK (v:=.slice (if cc=0 then p else p.map (·.add (0*k0))) (f.toNat-0) (cc-0)) ?_ (U _ M w (oQ.refl M) hs ⟨p,n,cc,hp,by omega,hnc,rfl⟩);have hb:=aCi (P:=S.P) (w:=w) (k:=k) (i:=f) (y:=cc) (code:=.sliceAcap) O (by omega);simp[execOp,J,q,V,Instr.sliceAt,Instr.slice,Instr.sliceBounds,run_underlying F.u,sizeOf,typeInfo,hit,hb]
theorem aNO{α:Type}{C:Cd α}{xs zs:List α}{β:Option Nat}{c T n:Nat}{f:Int}(i:Nat)(hH:H[i]?=some (hO C β c T n xs))(j:xs.length=n)(h:slL xs 0 f=some zs):∀M w,St S M w H→∃Mb,oQ M Mb∧Mok Mb w∧∀v,(pK (pO β n c) f.toNat C.n).h M v→(pS C zs).h Mb v:=fun M w hs=>by
 obtain⟨Mb,g1,k,q⟩:=aF0 i hH j M w hs;refine⟨Mb,g1,k,fun v hv=>?_⟩;obtain⟨rfl,_,z,F⟩:=aAl h;obtain⟨p,G,c',s,I,J,rfl⟩:=hv;have t:=q _ s;obtain⟨_,K,e,u,x,y⟩:=t;simp only[Value.slice.injEq]at e;obtain⟨rfl,rfl,rfl⟩:=e;exact aFb (l:=0) (h:=f.toNat) (m:=c') ⟨p,c',rfl,u,x,y⟩ (by omega) (by omega) (by omega) (Nat.le_refl _)
theorem aRk{α:Type}{xs zs:List α}{e:Int}{n:Nat}(h:slL xs 0 e=some zs)(f:xs.length=n):e≤(n:Int):=f▸(aAl h).2.2.2
def aKm(P Q:CP):List VP→List VP→Prop
 |[],[]=>True
 |p::ps,q::qs=>(p=q∨(p=.vc P∧q=.vc Q))∧aKm P Q ps qs
 |_,_=>False
theorem aKm.conv{P Q:CP}{M Mb:jW}(e:oQ M Mb)(f:∀v,P.h M v→Q.h Mb v):∀{ps qs:List VP} {vs:List Value},aKm P Q ps qs→lO M ps vs→lO Mb qs vs
 |[],[],[],_,_=>trivial
 |[],[],_::_,_,h=>h.elim
 |p::ps,q::qs,[],_,h=>h.elim
 |p::ps,q::qs,v::vs,j,h=>by
  refine⟨?_,aKm.conv e f j.2 h.2⟩;rcases j.1 with rfl|⟨rfl,rfl⟩
  ·exact VP.mono e h.1
  ·exact f v h.1
 |[],_::_,_,h,_=>h.elim
 |_::_,[],_,h,_=>h.elim
theorem aQT{P Q:CP}{pre' pre:List VP}(hlend:∀M w,St S M w H→∃Mb,oQ M Mb∧Mok Mb w∧∀v,P.h M v→Q.h Mb v)(h:aKm P Q pre' pre):∀M w,St S M w H→∃Mb,oQ M Mb∧Mok Mb w∧∀vs,lO M pre' vs→lO Mb pre vs:=fun M w hs=>by
 obtain⟨Mb,e,f,j⟩:=hlend M w hs;exact⟨Mb,e,f,fun vs hv=>h.conv e j hv⟩
section
variable {A:List HA}
theorem aHZ{f:Nat}{L A j B R:List HA}{pre:List VP}{q:VP}{cs:List CP}{xs:List Operand}{y:Operand}{ts:Array TypeId}(m:Nat)(is js ks:List Nat)(u:o.op=.call {callee:=.value y,args:=xs.toArray,argTypes:=ts})(c:CtO S.P f (j++R) (pre++cs.map .vc) (fun Ho p=>Ho=j++R∧p=q))(x:L.drop m=R)(z:cP (L.take m) is=some j)(F:cP (L.take m) js=some B)(G:cP (j++B) ks=some (L.take m))(I:(is++js).Nodup)(J:ks.Nodup)(O:xs.length=pre.length):
  Tr S o (L++A) (L++A) ((y,.vc (pF f cs))::xs.zip pre) q:=by
 refine⟨fun M w a h hin K Q hkk=>?_⟩;have hall:=lO.of_ins O hin.2;obtain⟨vs,U,hvs⟩:=hin.1;have V:L++A=L.take m++(R++A):=by rw[←x,←List.append_assoc,List.take_append_drop]
 rw[V]at h hkk;have g1:St S M w ((j++B)++(R++A)):=h.split (yR z F) I;have pp:List.Perm ((j++R)++(B++A)) ((j++B)++(R++A)):=by
  rw[List.append_assoc,List.append_assoc,←List.append_assoc R,←List.append_assoc B];exact((List.perm_append_comm).append_right A).append_left j
 have k:=g1.perm pp;obtain⟨s,X,t⟩:=aB5 (j++R) (B++A);have gin:St S M w (j++R):=k.pick s (List.nodup_append.1 t).1;refine xK (f:=f) (args:=(xs.map a.eval++vs).toArray) ?_ (c.run M w _ k.mem gin.own gin.nodup (lO.app hall (lO.of_all2 hvs))) fun e w' hr=>?_
 ·simp[execOp,u,resolve,Deferred.ofValue,U,invoke,o7 c.ok]
 ·obtain⟨v,M',Ho,q',⟨rfl,rfl⟩,rfl,hst',hq⟩:=hr;have Y:St S M' w' ((j++R)++(B++A)):=k.call s X t hst';exact⟨v,rfl,hkk v M' w' hst'.le0 ((Y.perm pp.symm).split G J) hq⟩
def pFB(f:Nat)(bs cs:List CP):CP:=⟨fun M v=>∃us vs:List Value,v=.func (.func f) us.toArray vs.toArray∧bJ M bs us∧bJ M cs vs,fun hm ⟨us,vs,e,h,k⟩=>⟨us,vs,e,bJ.monoc hm h,bJ.monoc hm k⟩,fun h=>by obtain⟨us,vs,rfl,_⟩:=h;rfl⟩
theorem aJC{M:jW}{a:Act}:∀{xs:List Operand} {cs:List CP},xs.length=cs.length→Ins M a (xs.zip (cs.map .vc))→bJ M cs (xs.map a.eval)
 |[],[],_,_=>trivial
 |_::_,_::_,h,k=>⟨k.1,aJC (by simpa using h) k.2⟩
 |[],_::_,h,_=>by simp at h
 |_::_,[],h,_=>by simp at h
theorem aTB{f:Nat}{xs:List Operand}{bs:List CP}(e:o.op=.makeFunc (.func f) xs.toArray #[])(h:xs.length=bs.length):Tr S o H H (xs.zip (bs.map .vc)) (.vc (pFB f bs [])):=
 ⟨fun M w a hs j K Q k=>cK (v:=.func (.func f) (xs.map a.eval).toArray #[]) (by simp[execOp,e,Instr.makeFunc]) (k _ M w (oQ.refl M) hs ⟨_,[],rfl,aJC h j,trivial⟩)⟩
theorem aGq{f:Nat}{L A j B R:List HA}{pre:List VP}{q:VP}{bs cs:List CP}{xs:List Operand}{y:Operand}{ts:Array TypeId}(m:Nat)(is js ks:List Nat)(u:o.op=.call {callee:=.value y,args:=xs.toArray,argTypes:=ts})(c:CtO S.P f (j++R) (bs.map .vc++(pre++cs.map .vc)) (fun Ho p=>Ho=j++R∧p=q))(x:L.drop m=R)(z:cP (L.take m) is=some j)(F:cP (L.take m) js=some B)(G:cP (j++B) ks=some (L.take m))(I:(is++js).Nodup)(J:ks.Nodup)(O:xs.length=pre.length):
  Tr S o (L++A) (L++A) ((y,.vc (pFB f bs cs))::xs.zip pre) q:=by
 refine⟨fun M w a h hin K Q hkk=>?_⟩;have hall:=lO.of_ins O hin.2;obtain⟨us,vs,U,hus,hvs⟩:=hin.1;have V:L++A=L.take m++(R++A):=by rw[←x,←List.append_assoc,List.take_append_drop]
 rw[V]at h hkk;have g1:St S M w ((j++B)++(R++A)):=h.split (yR z F) I;have pp:List.Perm ((j++R)++(B++A)) ((j++B)++(R++A)):=by
  rw[List.append_assoc,List.append_assoc,←List.append_assoc R,←List.append_assoc B];exact((List.perm_append_comm).append_right A).append_left j
 have k:=g1.perm pp;obtain⟨s,X,t⟩:=aB5 (j++R) (B++A);have gin:St S M w (j++R):=k.pick s (List.nodup_append.1 t).1;refine xK (f:=f) (args:=(us++(xs.map a.eval++vs)).toArray) ?_ (c.run M w _ k.mem gin.own gin.nodup (lO.app (lO.of_all2 hus) (lO.app hall (lO.of_all2 hvs)))) fun e w' hr=>?_
 ·simp[execOp,u,resolve,Deferred.ofValue,U,invoke,o7 c.ok]
 ·obtain⟨v,M',Ho,q',⟨rfl,rfl⟩,rfl,hst',hq⟩:=hr;have Y:St S M' w' ((j++R)++(B++A)):=k.call s X t hst';exact⟨v,rfl,hkk v M' w' hst'.le0 ((Y.perm pp.symm).split G J) hq⟩
end
end
end Go.Proofs.YtolfcbpgmfbgmaaGreat
