/- Texts of the proof, part 3: P6 P7 P8 R1 RZ PR L1 FR FU FJ PC K16 K17. -/
import Derived.Test.YtnmdhmfofbfkjaaGreatRows
import Derived.WalkKit
import Derived.ProofKit
import Derived.OpenShut
import Derived.JoinedCond
import Derived.RangeFuncSeq
import Derived.Below
import Derived.Test.YtnmdhmfofbfkjaaGreatZ2
set_option linter.unusedSimpArgs false
set_option linter.unusedVariables false
namespace Go.Proofs.YtnmdhmfofbfkjaaGreat
theorem aHh{b s:Int}(j:1≤b)(k:b<1000000000)(hs:s=1000000000/(b+1)):1≤s∧s≤500000000∧500000000≤s*b∧s*(b+1)≤1000000000:=by
 have d:=Int.mul_ediv_add_emod 1000000000 (b+1);have q:=Int.emod_nonneg 1000000000 (show b+1≠0 by omega);have t:=Int.emod_lt_of_pos 1000000000 (show 0<b+1 by omega);rw[←hs]at d;have e:1≤s:=by
  rcases Int.lt_or_le 0 s with h|h
  ·exact h
  ·have:(b+1)*s≤0:=Int.mul_nonpos_of_nonneg_of_nonpos (by omega) (by omega);omega
 have f:2*s≤(b+1)*s:=Int.mul_le_mul_of_nonneg_right (by omega) (by omega);have u:(b+1)*s=s*b+s:=by grind
 have x:s*(b+1)=s*b+s:=by grind
 have y:0≤(s-1)*(b-1):=Int.mul_nonneg (by omega) (by omega);have z:(s-1)*(b-1)=s*b-s-b+1:=by grind
 refine⟨e,by omega,by omega,by omega⟩
theorem aDn{u:List Int}{n i:Nat}(h:i<n):(u.take n).getD i 0=u.getD i 0:=by
 simp only[List.getD_eq_getElem?_getD,List.getElem?_take];rw[if_pos h]
theorem kM.take{u:List Int}(h:kM u)(n:Nat):kM (u.take n):=fun i=>by
 rcases Nat.lt_or_ge i n with e|e
 ·rw[aDn e];exact h i
 ·rw[rQ (by simp;omega)];omega
theorem aGB{u:List Int}{n:Nat}(h:kM u)(f:n≤u.length)(hv:vD u<PB n):vD (u.take n)=vD u:=by
 obtain⟨c,hc⟩:=Nat.exists_eq_add_of_le f;have e:(u.take n).length=n:=by simp;omega
 unfold vD at *;rw[e];rw[hc]at hv ⊢;rw[aFw h hv];exact aAH fun i j=>by rw[Nat.zero_add];exact aDn j
theorem aHJ{a b:List Int}(ha:kM a)(hb:kM b)(tb:Top b)(hb2:2≤b.length)(hab:b.length≤a.length)(hL:a.length≤60000000000):
  ∃q r,q.length≤a.length∧r.length≤a.length∧kM q∧kM r∧vD q=vD a/vD b∧vD r=vD a%vD b∧Ev (fun K=>qJ K a b) (q,r):=by
 obtain⟨N,z⟩:∃N,b.length=N+2:=⟨b.length-2,by omega⟩;have hbn:b≠[]:=by intro e;subst e;simp at z
 obtain⟨j,k⟩:∃x,b.getD (N+1) 0=x:=⟨_,rfl⟩;have hb1d:=hb (N+1);rw[k]at hb1d;have hb10:j≠0:=by
  rcases tb with h|h
  ·exact absurd h hbn
  ·rw[z,show N+2-1=N+1 by omega,k]at h;exact h
 obtain⟨s,hs⟩:∃x,1000000000/(j+1)=x:=⟨_,rfl⟩;obtain⟨hs1,hs2,hs3,U⟩:=aHh (b:=j) (by omega) hb1d.2 hs.symm;obtain⟨u,hul,huo,huv,huF⟩:=aB5 (a:=a) (f:=s) ha (by omega) (by omega) hL;obtain⟨vb,hvl,hvo,hvv,hvF⟩:=aB5 (a:=b) (f:=s) hb (by omega) (by omega) (by omega);have V:=oU (N+1);have hbv:vD b=W b 0 (N+1)+j*PB (N+1):=by unfold vD;rw[z,dG,Nat.zero_add,k]
 have hbw:=wV (hb.dr 0 (N+1));have L:vD vb<PB (N+2):=by
  rw[hvv];have O:vD b<(j+1)*PB (N+1):=by rw[Int.add_mul,Int.one_mul];omega
  have h2:s*vD b<s*((j+1)*PB (N+1)):=Int.mul_lt_mul_of_pos_left O (by omega);have I:s*(j+1)*PB (N+1)≤1000000000*PB (N+1):=Int.mul_le_mul_of_nonneg_right U (by omega);rw[Int.mul_assoc]at I;show _<PB (N+1)*1000000000;omega
 have F:=hvo.take (N+2);have hvd:=aGB (n:=N+2) hvo (by omega) L;have hvtl:(vb.take (N+2)).length=N+2:=by simp;omega
 obtain⟨v,hv⟩:∃x,vb.take (N+2)=x:=⟨_,rfl⟩;rw[hv]at F hvd hvtl;have G:vD v=s*vD b:=by rw[hvd,hvv]
 have hV1:500000000≤v.getD (N+1) 0:=by
  have e:vD v=W v 0 (N+1)+v.getD (N+1) 0*PB (N+1):=by unfold vD;rw[hvtl,dG,Nat.zero_add]
  have O:=(wV (F.dr 0 (N+1))).2;have h2:s*(j*PB (N+1))≤s*vD b:=Int.mul_le_mul_of_nonneg_left (by omega) (by omega);rw[←Int.mul_assoc]at h2;have I:s*j*PB (N+1)<(v.getD (N+1) 0+1)*PB (N+1):=by rw[Int.add_mul _ 1,Int.one_mul];omega
  have:=q9 V I;omega
 have hbpos:=tb.pos hb hbn;rw[z,show N+2-1=N+1 by omega]at hbpos;have start:aDh a.length (N+2) v (s*vD a) (List.replicate (a.length-(N+2)+1) 0) u (a.length-(N+2)+1):=by
  refine⟨by simp,hul,huo,fun t _=>?_,?_,?_⟩
  ·simp only[List.getD_eq_getElem?_getD,List.getElem?_replicate];split<;>simp
  ·rw[huv,G];have O:=ha.lt;have e:a.length=(N+1)+(a.length-(N+2)+1):=by omega
   rw[e,yK]at O;have hp:=oU (a.length-(N+2)+1);have h2:PB (N+1)*PB (a.length-(N+2)+1)≤vD b*PB (a.length-(N+2)+1):=Int.mul_le_mul_of_nonneg_right hbpos (by omega);have I:s*vD a<s*(vD b*PB (a.length-(N+2)+1)):=Int.mul_lt_mul_of_pos_left (by omega) (by omega);rw[←Int.mul_assoc]at I;exact I
  ·rw[huv,Nat.sub_self,aLT];simp
 obtain⟨q,J,y,hF⟩:=aCt (b:=b) (m:=a.length) z (by omega) (by omega) F hvtl hV1 _ _ _ (Nat.le_refl _) start;have hql:=y.ql;have hu'l:=y.ul;have hqo:kM q:=fun i=>y.qok i (Nat.zero_le _)
 have hlt:=y.lt;have hval:=y.val;rw[G]at hlt hval;simp only[PB,Int.mul_one,Int.one_mul,Nat.sub_zero]at hlt hval;have hqv:vD q=W q 0 (a.length-(N+2)+1):=by unfold vD;rw[hql]
 rw[←hqv]at hval;have hu'n:=y.uok.nonneg;have hu'lt:vD J<PB (N+2):=by rw[←G,hvd]at hlt;omega
 have hto:=y.uok.take (N+2);have htv:=aGB (n:=N+2) y.uok (by omega) hu'lt;have htl:(J.take (N+2)).length=N+2:=by simp;omega
 obtain⟨r,r0,hrl,hro,hrv,hr0,hrF⟩:=aDp (a:=J.take (N+2)) (b:=s) hto (by omega) (by omega) (by omega);have hrho:vD J=s*(vD a-vD b*vD q):=by
  rw[Int.mul_sub,←Int.mul_assoc];omega
 have hr:vD r=vD a-vD b*vD q:=by
  rw[hrv,htv,hrho,Int.mul_ediv_cancel_left _ (by omega)]
 have hrn:0≤vD r:=hro.nonneg;have hrb:vD r<vD b:=by
  rw[hrho,←hr]at hlt;rw[Int.mul_comm,Int.mul_comm s]at hlt;exact q9 (by omega) hlt
 have hbp:0<vD b:=by omega
 refine⟨q,r,by omega,by omega,hqo,hro,?_,?_,?_⟩
 ·have e:vD a=vD r+vD b*vD q:=by omega
  rw[e,Int.add_mul_ediv_left _ _ (by omega),Int.ediv_eq_zero_of_lt hrn hrb,Int.zero_add]
 ·have e:vD a=vD r+vD b*vD q:=by omega
  rw[e,Int.add_mul_emod_self_left,Int.emod_eq_of_lt hrn hrb]
 ·have e1:aV ((b.length:Int)-1)=some ((N+1:Nat):Int):=tK (m:=0) (by omega) (by omega);have e2:=cV (xs:=b) (i:=N+1) (by omega);rw[k]at e2;have e3:aV (j+1)=some (j+1):=qB (by omega);have e4:vX 1000000000 (j+1)=some s:=by rw[←hs];exact qL (by omega) (by omega) (by omega)
  have e5:xN vb 0 (b.length:Int)=some v:=by rw[z,←hv];exact aDY (by omega)
  have e6:aV ((a.length:Int)-(b.length:Int))=some ((a.length-(N+2):Nat):Int):=tK (m:=0) (by omega) (by omega);have e7:aV (((a.length-(N+2):Nat):Int)+1)=some ((a.length-(N+2)+1:Nat):Int):=tK (m:=0) (by omega) (by omega);have e8:xU ((a.length-(N+2)+1:Nat):Int) (0:Int)=some (List.replicate (a.length-(N+2)+1) 0):=xC (by omega);have e9:((a.length-(N+2):Nat):Int)=((a.length-(N+2)+1:Nat):Int)-1:=by omega
  have e10:xN J 0 (b.length:Int)=some (J.take (N+2)):=by rw[z];exact aDY (by omega)
  simp only[qJ,e1,e2,e3,e4,oB];refine Ev.bind huF (Ev.bind hvF ?_);simp only[e5,e6,e7,e8,oB];rw[e9];refine Ev.bind hF.ev ?_;simp only[pH,e10,oB];exact Ev.bind hrF (Ev.pure _)
theorem aJI{n:Nat}(h:n≤18446744073709551615):IntKind.u64.wrap (n:Int)=(n:Int):=IntWalk.u64_in _ ⟨by omega,by omega⟩
theorem aFV(m n:Nat):dl (m/n)≤dl m:=n9 (Nat.div_le_self m n)
theorem aD1(m n:Nat):dl (m%n)≤dl m:=n9 (Nat.mod_le m n)
theorem uM{n:Nat}(h:(bP n).length≤2):n<1000000000000000000:=by
 have:=aCC n;have e:=aA4 (a:=dl n) (b:=2) h;have:PB 2=1000000000000000000:=by decide
 omega
theorem aB8{m n:Nat}(z:0<n)(O:dl m≤60000000000):Ev (fun K=>lK K (bP m) (bP n)) (Z (m/n:Nat),Z (m%n:Nat)):=by
 have dm:=bT m;have dn:=bT n;have vm:=dX m;have vn:=dX n;have tm:=oJ m;have tn:=oJ n;have lm:(bP m).length=dl m:=rfl;have ln:(bP n).length=dl n:=rfl;have key:Ev (fun K=>kY K (bP m) (bP n)) (Z (m/n:Nat),Z (m%n:Nat)):=by
  unfold kY;refine Ev.bind (vH dm dn tm tn (by omega)) ?_;rw[vm,vn];unfold uP;by_cases hlt:m<n
  ·rw[if_pos (by omega)];have e:=tP false dm (by omega);rw[vm,Int.toNat_natCast,l9]at e;refine Ev.congr (g:=fun K=>(d6 K false (bP m)).bind fun F=>some ((⟨false,([]:List Int)⟩:aF),F)) ?_ (fun K=>rfl);refine Ev.bind e ?_;rw[Nat.div_eq_of_lt hlt,Nat.mod_eq_of_lt hlt];have:Z ((0:Nat):Int)=⟨false,[]⟩:=by rw[←l9];rfl
   rw[this];exact Ev.pure _
  ·have hc:decide ((if(m:Int)<n then(-1:Int) else if(n:Int)<m then 1 else 0)<0)=false:=by
    rw[if_neg (by omega)];split<;>rfl
   simp only[hc,eD];have hle:dl n≤dl m:=n9 (by omega);have G:dl n≠0:=by rw[Ne,s5];omega
   by_cases e:dl n=1
   ·have h:(((bP n).length:Int)==1)=true:=qT (by omega);obtain⟨a1,a2⟩:=xS e;have j:=cV (xs:=bP n) (i:=0) (by omega);simp only[Int.natCast_zero]at j;rw[a1]at j;obtain⟨q,r,g1,u,k,s,t⟩:=aDp (a:=bP m) (b:=(n:Int)) dm (by omega) (by omega) (by omega);rw[vm]at k s;have f:=tP false u (by omega);rw[k,l9]at f;simp only[h,d9,j,oB];refine Ev.bind t (Ev.bind f ?_);have hr:r=((m%n:Nat):Int):=by rw[s];simp
    have hrlt:m%n<n:=Nat.mod_lt _ z;rw[hr,aJI (by omega),o7 false (by omega),oB,l9];have:((((m:Int)/n).toNat:Nat):Int)=((m/n:Nat):Int):=by rw[←Int.natCast_ediv,Int.toNat_natCast]
    rw[this];exact Ev.pure _
   ·have h:(((bP n).length:Int)==1)=false:=qF (by omega);obtain⟨q,r,g1,u,k,s,t,x,I⟩:=aHJ dm dn tn (by omega) (by omega) (by omega);rw[vm,vn]at t x;have f:=tP false k (by omega);have y:=tP false s (by omega);rw[t,l9]at f;rw[x,l9]at y;simp only[h,eD];refine Ev.bind I (Ev.bind f (Ev.bind y ?_));have J:((((m:Int)/n).toNat:Nat):Int)=((m/n:Nat):Int):=by rw[←Int.natCast_ediv,Int.toNat_natCast]
    have L:((((m:Int)%n).toNat:Nat):Int)=((m%n:Nat):Int):=by rw[←Int.natCast_emod,Int.toNat_natCast]
    rw[J,L];exact Ev.pure _
 unfold lK;rw[yS dm,yS dn];simp only[oB];by_cases e:(bP m).length≤2
 ·by_cases f:(bP n).length≤2
  ·rw[if_pos e,if_pos f];simp only[d9,vm,vn];have U:=uM e;have V:=Nat.div_le_self m n;have hm:=Nat.mod_le m n;have h:vX (m:Int) (n:Int)=some ((m/n:Nat):Int):=by rw[qL (by omega) (by omega) (by omega)];simp
   have j:wA (m:Int) (n:Int)=some ((m%n:Nat):Int):=by rw[oV (by omega) (by omega)];simp
   simp only[h,j,oB];rw[aJI (by omega),aJI (by omega),o7 false (by omega),o7 false (by omega)];simp only[oB,l9];exact Ev.pure _
  ·rw[if_pos e,if_neg f];simp only[d9,eD];exact key
 ·rw[if_neg e];simp only[eD];exact key
theorem aGY{x y:Int}(U:y≠0)(hx:dl x.natAbs≤40000000000)(V:dl y.natAbs≤40000000000):Ev (fun K=>pX K (Z x) (Z y)) (Z (x/y),Z (x%y)):=by
 have hyl:dl y.natAbs≠0:=by rw[Ne,s5];omega
 have e1:(((bP y.natAbs).length:Int)==0)=false:=qF (by show(dl y.natAbs:Int)≠0;omega);have hm0:=Nat.mod_lt x.natAbs (show 0<y.natAbs by omega);have hd:∀n:Nat,((Z (n:Int)).d.length:Int)=dl n:=fun n=>by rw[o6];simp
 have hdm:=aFV x.natAbs y.natAbs;have hmm:=aD1 x.natAbs y.natAbs;have hnd:=Nat.div_add_mod x.natAbs y.natAbs;have cX:∀(q r:Nat),((if(x<0)↔(y<0) then(q:Int) else -(q:Int))=x/y)→((r:Int)=x%y)→Ev (fun K=>kV K (Z x) (Z y) (Z r) (Z q)) (Z (x/y),Z (x%y)):=by
  intro q r u hr;refine Ev.of fun K=>?_
  unfold kV;rw[sW,sW,←u,←hr];by_cases hs:(x<0)↔(y<0)
  ·have e:(decide (x<0) != decide (y<0))=false:=by simp[hs]
   rw[e,eD,if_pos hs];have:(Z (q:Int))=⟨false,(Z (q:Int)).d⟩:=by unfold Z;simp
   rw[←this]
  ·have e:(decide (x<0) != decide (y<0))=true:=by simp;exact hs
   rw[e,d9,if_neg hs];congr 2;unfold Z;rw[Int.natAbs_neg];congr 1;have:(bP (q:Int).natAbs).length=dl q:=by simp[dl]
   rw[this];by_cases F:q=0
   ·subst F;rw[uH];rfl
   ·have:dl q≠0:=by rw[Ne,s5];exact F
    rw[dT (by omega),dT (by omega)]
 have eT:∀z:Int,(z.natAbs:Int)=z∨(z.natAbs:Int)=-z:=fun z=>by omega
 unfold pX;simp only[e1,eD,Z_d,sW];refine Ev.bind (aB8 (m:=x.natAbs) (n:=y.natAbs) (by omega) (by omega)) ?_;have c1:(x.natAbs:Int)=(y.natAbs:Int)*((x.natAbs/y.natAbs:Nat):Int)+((x.natAbs%y.natAbs:Nat):Int):=by
  rw[←Int.natCast_mul,←Int.natCast_add,hnd]
 generalize u:x.natAbs/y.natAbs=q at *;generalize hr:x.natAbs%y.natAbs=r at *;have uniq:∀a b:Int,x=y*a+b→0≤b→b<y.natAbs→x/y=a∧x%y=b:=by
  intro a b h1 G h3;have hm:x%y=b:=by
   rw[h1,Int.add_comm,Int.add_mul_emod_self_left];by_cases f:y<0
   ·have:b%y=b% -y:=by rw[Int.emod_neg]
    rw[this,Int.emod_eq_of_lt G (by omega)]
   ·exact Int.emod_eq_of_lt G (by omega)
  refine⟨?_,hm⟩;have h4:=Int.mul_ediv_add_emod x y;exact Int.eq_of_mul_eq_mul_left U (by omega)
 by_cases h:x<0
 ·have k:decide (x<0)=true:=dT h;simp only[k,d9];by_cases j:r=0
  ·subst j;have t:decide (0<((Z ((0:Nat):Int)).d.length:Int))=false:=by rw[Z_d,show((0:Nat):Int).natAbs=0 from rfl,vG];rfl
   simp only[t,eD];refine cX q 0 ?_ ?_
   ·by_cases f:y<0
    ·rw[if_pos (by simp[h,f])];refine((uniq q 0 ?_ (by omega) (by omega)).1).symm;rw[show(y.natAbs:Int)=-y by omega,show(x.natAbs:Int)=-x by omega]at c1;rw[Int.neg_mul]at c1;omega
    ·rw[if_neg (by simp[h,f])];refine((uniq (-q) 0 ?_ (by omega) (by omega)).1).symm;rw[show(y.natAbs:Int)=y by omega,show(x.natAbs:Int)=-x by omega]at c1;rw[Int.mul_neg];omega
   ·by_cases f:y<0
    ·refine((uniq q 0 ?_ (by omega) (by omega)).2).symm;rw[show(y.natAbs:Int)=-y by omega,show(x.natAbs:Int)=-x by omega]at c1;rw[Int.neg_mul]at c1;omega
    ·refine((uniq (-q) 0 ?_ (by omega) (by omega)).2).symm;rw[show(y.natAbs:Int)=y by omega,show(x.natAbs:Int)=-x by omega]at c1;rw[Int.mul_neg];omega
  ·have hrl:dl r≠0:=by rw[Ne,s5];exact j
   have t:decide (0<((Z (r:Int)).d.length:Int))=true:=dT (by rw[o6];simp only[Int.natAbs_natCast];omega);simp only[t,d9];simp only[Z_d,Int.natAbs_natCast];have d1:kM [1]:=kM.nil.cons (by omega) (by omega);obtain⟨p,p1,p2,I,p4⟩:=aFe (bT q) d1 (by show dl q≤_;omega) (by simp);rw[dX,vD1]at I;have J:=tP false p1 (by have:(bP q).length=dl q:=rfl;simp at p2;omega);rw[I,l9]at J;obtain⟨s,s1,s2,L,s4⟩:=aBm (bT y.natAbs) (bT r) (n9 (by omega)) (by rw[dX,dX];omega) (by show dl _≤_;omega);rw[dX,dX]at L;have O:=tP false s2 (by rw[s1];show dl _≤_;omega);rw[L,l9]at O;refine Ev.bind p4 (Ev.bind J (Ev.bind s4 (Ev.bind O ?_)));refine cX _ _ ?_ ?_
   ·by_cases f:y<0
    ·rw[if_pos (by simp[h,f])];refine((uniq (q+1) (y.natAbs-r) ?_ (by omega) (by omega)).1).symm▸(by omega);rw[show(y.natAbs:Int)=-y by omega,show(x.natAbs:Int)=-x by omega]at c1;rw[Int.neg_mul]at c1;rw[Int.mul_add];omega
    ·rw[if_neg (by simp[h,f])];refine((uniq (-(q+1)) (y.natAbs-r) ?_ (by omega) (by omega)).1).symm▸(by omega);rw[show(y.natAbs:Int)=y by omega,show(x.natAbs:Int)=-x by omega]at c1;rw[Int.mul_neg,Int.mul_add];omega
   ·by_cases f:y<0
    ·refine((uniq (q+1) (y.natAbs-r) ?_ (by omega) (by omega)).2).symm▸(by omega);rw[show(y.natAbs:Int)=-y by omega,show(x.natAbs:Int)=-x by omega]at c1;rw[Int.neg_mul]at c1;rw[Int.mul_add];omega
    ·refine((uniq (-(q+1)) (y.natAbs-r) ?_ (by omega) (by omega)).2).symm▸(by omega);rw[show(y.natAbs:Int)=y by omega,show(x.natAbs:Int)=-x by omega]at c1;rw[Int.mul_neg,Int.mul_add];omega
 ·have k:decide (x<0)=false:=dF h;simp only[k,eD];refine cX q r ?_ ?_
  ·by_cases f:y<0
   ·rw[if_neg (by simp[h,f])];refine((uniq (-q) r ?_ (by omega) (by omega)).1).symm;rw[show(y.natAbs:Int)=-y by omega,show(x.natAbs:Int)=x by omega]at c1;rw[Int.neg_mul]at c1;rw[Int.mul_neg];omega
   ·rw[if_pos (by simp[h,f])];refine((uniq q r ?_ (by omega) (by omega)).1).symm;rw[show(y.natAbs:Int)=y by omega,show(x.natAbs:Int)=x by omega]at c1;omega
  ·by_cases f:y<0
   ·refine((uniq (-q) r ?_ (by omega) (by omega)).2).symm;rw[show(y.natAbs:Int)=-y by omega,show(x.natAbs:Int)=x by omega]at c1;rw[Int.neg_mul]at c1;rw[Int.mul_neg];omega
   ·refine((uniq q r ?_ (by omega) (by omega)).2).symm;rw[show(y.natAbs:Int)=y by omega,show(x.natAbs:Int)=x by omega]at c1;omega
theorem aJX(K:Nat):∀(n m k:Nat),n<k→jJ K k (m:Int) (n:Int)=some ((Nat.gcd m n:Nat):Int):=by
 intro n
 induction n using Nat.strongRecOn with
 |_ n ih=>
  intro m k e;obtain⟨f,rfl,_⟩:=cF e;by_cases h:n=0
  ·subst h;simp[jJ]
  ·have j:decide (0<(n:Int))=true:=dT (by omega);have q:wA (m:Int) (n:Int)=some ((m%n:Nat):Int):=by rw[oV (by omega) (by omega)];simp
   simp only[jJ,j,d9,q,oB];have hlt:=Nat.mod_lt m (show 0<n by omega);rw[ih (m%n) hlt n f (by omega)];congr 2;rw[Nat.gcd_comm m n,Nat.gcd_rec n m,Nat.gcd_comm]
theorem aJ4:∀(n m:Nat),dl m≤60000000000→dl n≤60000000000→∃r,sB (fun K k=>g8 K k (Z (m:Int)) (Z (n:Int))) r∧(r=.ret (Z (Nat.gcd m n:Nat))∨r=.go (Z (Nat.gcd m n:Nat))):=by
 intro n
 induction n using Nat.strongRecOn with
 |_ n ih=>
  intro m hm z;by_cases h:n=0
  ·subst h;refine⟨.go (Z m),sB.of 1 fun K k F=>?_,.inr (by simp)⟩;obtain⟨I,rfl,_⟩:=cF (n:=0) F;have e:decide (0<((Z ((0:Nat):Int)).d.length:Int))=false:=by rw[o6,show((0:Nat):Int).natAbs=0 from rfl,uH];rfl
   simp only[g8,e,eD]
  ·have J:dl n≠0:=by rw[Ne,s5];exact h
   have s:decide (0<((bP n).length:Int))=true:=dT (by show(0:Int)<dl n;omega);have hlt:=Nat.mod_lt m (show 0<n by omega);obtain⟨r,u,y⟩:=ih (m%n) hlt n z (Nat.le_trans (aD1 _ _) hm);have G:Nat.gcd n (m%n)=Nat.gcd m n:=by rw[Nat.gcd_comm m n,Nat.gcd_rec n m,Nat.gcd_comm]
   rw[G]at y;have hdiv:=aB8 (m:=m) (n:=n) (by omega) hm;have zd:∀t:Nat,(Z (t:Int)).d=bP t:=fun t=>by rw[Z_d];simp
   by_cases hs:dl m≤2∧dl n≤2
   ·refine⟨.ret (Z (Nat.gcd m n:Nat)),sB.step ?_,.inl rfl⟩;have L:=uM (n:=m) hs.1;have b2:=uM (n:=n) hs.2;have hgl:Nat.gcd m n≤n:=Nat.gcd_le_right m (by omega);simp only[g8,s,d9,zd,yS (bT m),yS (bT n),dX,oB];rw[if_pos (show(bP m).length≤2 from hs.1),if_pos (show(bP n).length≤2 from hs.2)];simp only[d9];refine sB.bind (x:=((Nat.gcd m n:Nat):Int)) (f:=fun K=>jJ K K (m:Int) (n:Int)) ⟨n+1,fun K O=>aJX K n m K (by omega)⟩ ?_;simp only[qD,aJI (show Nat.gcd m n≤18446744073709551615 by omega),o7 false (show Nat.gcd m n≤18446744073709551615 by omega),oB,l9];exact sB.of 0 fun _ _ _=>rfl
   ·refine⟨r,sB.step ?_,y⟩;simp only[g8,s,d9,zd,yS (bT m),yS (bT n),dX,oB];by_cases j:(bP m).length≤2
    ·have q:¬(bP n).length≤2:=fun e=>hs ⟨j,e⟩
     rw[if_pos j,if_neg q];simp only[d9,eD];exact sB.bind hdiv u
    ·rw[if_neg j];simp only[eD];exact sB.bind hdiv u
theorem aJF{x y:Int}(h:dl x.natAbs≤60000000000)(j:dl y.natAbs≤60000000000):Ev (fun K=>rN K (Z x) (Z y)) (Z (Int.gcd x y:Nat)):=by
 unfold rN;have e:=tP false (bT x.natAbs) (by show dl _≤_;omega);have f:=tP false (bT y.natAbs) (by show dl _≤_;omega);rw[dX,l9,Int.toNat_natCast]at e f;simp only[Z_d];refine Ev.bind e (Ev.bind f ?_);obtain⟨r,k,q⟩:=aJ4 y.natAbs x.natAbs h j;refine Ev.bind k.ev ?_;rcases q with rfl|rfl
 ·exact Ev.pure _
 ·exact Ev.pure _
theorem aB0(u:List Int):∀(n:Nat),n≤u.length→n≤9000000000000→∃m:Nat,m≤n∧(∀i,m≤i→i<n→u.getD i 0=0)∧(m=0∨u.getD (m-1) 0≠0)∧∀K k,n<k→eN K u k n=some (m:Int)
 |0,_,_=>⟨0,Nat.le_refl _,fun i _ h=>by omega,.inl rfl,fun K k f=>by
   obtain⟨q,rfl,_⟩:=cF f;simp[eN]⟩
 |n+1,h,J=>by
  have t:aV (((n+1:Nat):Int)-1)=some (n:Int):=tK (m:=0) (by omega) (by omega);have x:decide (0<((n+1:Nat):Int))=true:=dT (by omega);have y:max (n:Int) 0=(n:Int):=by omega
  have z:=cV (xs:=u) (i:=n) (by omega);by_cases j:u.getD n 0=0
  ·obtain⟨m,L,F,G,I⟩:=aB0 u n (by omega) (by omega);refine⟨m,by omega,fun i a b=>?_,G,fun K k f=>?_⟩
   ·by_cases e:i=n
    ·subst e;exact j
    ·exact F i a (by omega)
   ·obtain⟨q,rfl,s⟩:=cF f;simp only[eN,y,t,x,z,qT j,d9,oB];exact I K q (by omega)
  ·refine⟨n+1,by omega,fun i a b=>by omega,.inr (by simpa using j),fun K k f=>?_⟩;obtain⟨q,rfl,s⟩:=cF f;simp only[eN,y,t,x,z,qF j,d9,eD,oB]
theorem iG(neg:Bool){u:List Int}(e:kM u)(q:u.length≤9000000000000):Ev (fun K=>aU K neg u) (mkG neg (vD u).toNat):=by
 obtain⟨m,f,s,t,x⟩:=aB0 u u.length (Nat.le_refl _) q;obtain⟨y,j⟩:=aMU e f s t;have z:=e.nonneg;refine⟨u.length+1,fun K F=>?_⟩;simp only[aU,x K K (by omega),oB,mD];unfold mkG;by_cases k:m=0
 ·rw[qT (by omega),d9,if_pos (by have:=j.1 k;omega)]
 ·rw[qF (by omega),eD,aDY f,oB,if_neg (by intro h;exact k (j.2 (by omega))),y]
theorem aMr{u:List Int}{x:Int}(h:u.length≤60000000000):uK u [x]=some (u++[x]):=aAp (by simp;omega)
theorem kM.snoc{u:List Int}{x:Int}(h:kM u)(f:0≤x)(j:x<1000000000):kM (u++[x]):=fun i=>by
 rcases Nat.lt_trichotomy i u.length with e|e|e
 ·rw[aFd e];exact h i
 ·subst e;rw[aC5];exact⟨f,j⟩
 ·rw[rQ (by simp;omega)];omega
theorem aJ1:∀(n:Nat) (neg:Bool) (u:List Int),n≤9223372036854775808→(neg=false→n≤9223372036854775807)→kM u→u.length+n≤30000000000000000000→u.length+dl n≤50→∃r,kM r∧r.length≤u.length+dl n∧vD r=vD u+n*PB u.length∧∀K k,n<k→dD K k u (if neg then -(n:Int) else n)=some r:=by
 intro n
 induction n using Nat.strongRecOn with
 |_ n ih=>
  intro neg u U z hu V h4;by_cases F:n=0
  ·subst F;refine⟨u,hu,by omega,by simp,fun K k t=>?_⟩;obtain⟨y,rfl,_⟩:=cF t;cases neg<;>simp[dD]
  ·have hdl:dl n=dl (n/1000000000)+1:=by unfold dl;rw[sE F];rfl
   obtain⟨r,g1,J,G,I⟩:=ih (n/1000000000) (by omega) neg (u++[((n%1000000000:Nat):Int)]) (by omega) (fun e=>by have:=z e;omega) (hu.snoc (by omega) (by omega)) (by simp;omega) (by simp;omega);have hul:(u++[((n%1000000000:Nat):Int)]).length=u.length+1:=by simp
   rw[hul]at J G;refine⟨r,g1,by omega,?_,fun K k t=>?_⟩
   ·rw[G];unfold vD;rw[hul,aIx];simp only[PB];have:(n:Int)=(n%1000000000:Nat)+((n/1000000000:Nat):Int)*1000000000:=by omega
    rw[show(n:Int)*PB u.length=((n%1000000000:Nat)+((n/1000000000:Nat):Int)*1000000000)*PB u.length by rw[←this]];grind
   ·obtain⟨y,rfl,_⟩:=cF t;have a1:∀x:Int,uK u [x]=some (u++[x]):=fun x=>aMr (by omega)
    cases neg with
    |false=>
     have f:=I K y (by omega);simp only[Bool.false_eq_true,if_false]at f ⊢;have:=z rfl;have j:((n:Int) != 0)=true:=nT (by omega);have q:wA (n:Int) 1000000000=some ((n%1000000000:Nat):Int):=by rw[oV (by omega) (by omega)];simp
     have s:vX (n:Int) 1000000000=some ((n/1000000000:Nat):Int):=by rw[qL (by omega) (by omega) (by omega)];simp
     have h:decide (((n%1000000000:Nat):Int)<0)=false:=dF (by omega);simp only[dD,j,q,s,h,a1,d9,eD,oB];exact f
    |true=>
     have f:=I K y (by omega);simp only[if_true]at f ⊢;have j:(-(n:Int) != 0)=true:=nT (by omega);have q:wA (-(n:Int)) 1000000000=some (-((n%1000000000:Nat):Int)):=by
      unfold wA;rw[if_neg (by omega),Int.neg_tmod,Int.tmod_eq_emod_of_nonneg (by omega)];simp
     have s:vX (-(n:Int)) 1000000000=some (-((n/1000000000:Nat):Int)):=by
      unfold vX;rw[if_neg (by omega),Int.neg_tdiv,Int.tdiv_eq_ediv_of_nonneg (by omega),show(n:Int)/1000000000=((n/1000000000:Nat):Int) by simp];exact qB (by omega)
     by_cases L:n%1000000000=0
     ·have h:decide (-((n%1000000000:Nat):Int)<0)=false:=dF (by omega);simp only[dD,j,q,s,h,a1,d9,eD,oB];rw[L]at f ⊢;exact f
     ·have h:decide (-((n%1000000000:Nat):Int)<0)=true:=dT (by omega);have O:aV (- -((n%1000000000:Nat):Int))=some ((n%1000000000:Nat):Int):=by rw[Int.neg_neg];exact qB (by omega)
      simp only[dD,j,q,s,h,O,a1,d9,oB];exact f
theorem yV{n:Int}(h:-9223372036854775808≤n∧n≤9223372036854775807):Ev (fun K=>gR K n) (Z n):=by
 have x:dl n.natAbs≤3:=z3 (by
  have:PB 3=1000000000000000000000000000:=by decide
  omega)
 obtain⟨r,s,t,u,k⟩:=aJ1 n.natAbs (decide (n<0)) [] (by omega) (by simp;omega) kM.nil (by simp;omega) (by simp;omega);have e:(if decide (n<0)=true then -(n.natAbs:Int) else(n.natAbs:Int))=n:=by
  by_cases q:n<0
  ·rw[if_pos (by simpa using q)];omega
  ·rw[if_neg (by simpa using q)];omega
 rw[e]at k;have j:=iG (decide (n<0)) s (by simp at t;omega);rw[u,vD0]at j;simp only[List.length_nil,PB,Int.mul_one,Int.zero_add,Int.toNat_natCast]at j;rw[rF,e]at j;unfold gR;refine Ev.bind (f:=fun K=>dD K K [] n) ⟨n.natAbs+1,fun K y=>k K K (by omega)⟩ ?_;simp only[n8];exact Ev.bind j (Ev.pure _)
theorem r6(u:List Int)(i:Nat):cP u (i:Int)=some (u.getD i 0):=by
 unfold cP;by_cases h:i<u.length
 ·rw[dT (by omega),d9,cV h,oB]
 ·rw[dF (by omega),eD,rQ (by omega)]
theorem aL0{u:List Int}{x:Int}{i:Nat}(h:u.length=i):W (u++[x]) 0 (i+1)=W u 0 i+x*PB i:=by subst h;exact aIx
theorem aG8{a b:List Int}(O:kM a)(hb:kM b){M:Nat}(hL:a.length≤M)(hM:b.length≤M)(U:M≤50000000000):∀(t i:Nat) (out:List Int) (c:Int),M+1-i=t→i≤M+1→out.length=i→kM out→0≤c→c≤1→(i=M+1→c=0)→W out 0 i+c*PB i=W a 0 i+W b 0 i→
  ∃r,r.length≤M+1∧kM r∧vD r=vD a+vD b∧∀K k,t<k→bN K a b k out c (i:Int)=some r:=by
 intro t
 induction t with
 |zero=>
  intro i out c V hi z F G I hc J;have hii:i=M+1:=by omega
  have:=hc hii;subst this;refine⟨out,by omega,F,?_,fun K k f=>?_⟩
  ·rw[w7 (u:=a) (by omega),w7 (u:=b) (by omega)]at J;unfold vD;rw[z];omega
  ·obtain⟨j,rfl,_⟩:=cF f;have e1:decide ((i:Int)<(a.length:Int))=false:=dF (by omega);have e2:decide ((i:Int)<(b.length:Int))=false:=dF (by omega);have e3:decide ((0:Int)<0)=false:=dF (by omega);simp only[bN,e1,e2,e3,eD]
 |succ t ih=>
  intro i out c V hi z F G I hc J;have ha':=O i;have hb':=hb i;have f1:aV (a.getD i 0+b.getD i 0)=some (a.getD i 0+b.getD i 0):=qB (by omega);have f2:aV (a.getD i 0+b.getD i 0+c)=some (a.getD i 0+b.getD i 0+c):=qB (by omega);have f3:wA (a.getD i 0+b.getD i 0+c) 1000000000=some ((a.getD i 0+b.getD i 0+c)%1000000000):=oV (by omega) (by omega);have f4:vX (a.getD i 0+b.getD i 0+c) 1000000000=some ((a.getD i 0+b.getD i 0+c)/1000000000):=qL (by omega) (by omega) (by omega);have f5:aV ((i:Int)+1)=some ((i+1:Nat):Int):=tK (m:=0) (by omega) (by omega);have f6:∀x:Int,uK out [x]=some (out++[x]):=fun x=>aMr (by omega)
  have go:(i=M→a.getD i 0=0∧b.getD i 0=0)→i≤M→∃r,r.length≤M+1∧kM r∧vD r=vD a+vD b∧∀K k,t<k→bN K a b k (out++[(a.getD i 0+b.getD i 0+c)%1000000000]) ((a.getD i 0+b.getD i 0+c)/1000000000) ((i+1:Nat):Int)=some r:=by
   intro hlast hile;refine ih (i+1) _ _ (by omega) (by omega) (by simp;omega) (F.snoc (by omega) (by omega)) (by omega) (by omega) (fun e=>?_) ?_
   ·have:=hlast (by omega);omega
   ·rw[aL0 z,dG,dG,Nat.zero_add];simp only[PB];have hd:(a.getD i 0+b.getD i 0+c)%1000000000+1000000000*((a.getD i 0+b.getD i 0+c)/1000000000)=a.getD i 0+b.getD i 0+c:=by omega
    grind
  by_cases h1:i<a.length
  ·obtain⟨r,g1,q,s,y⟩:=go (fun e=>by omega) (by omega);refine⟨r,g1,q,s,fun K k f=>?_⟩;obtain⟨j,rfl,_⟩:=cF f;simp only[bN,dT (show(i:Int)<(a.length:Int) by omega),r6,f1,f2,f3,f4,f5,f6,d9,oB];exact y K j (Nat.lt_of_succ_lt_succ f)
  ·by_cases h2:i<b.length
   ·obtain⟨r,g1,q,s,y⟩:=go (fun e=>by omega) (by omega);refine⟨r,g1,q,s,fun K k f=>?_⟩;obtain⟨j,rfl,_⟩:=cF f;simp only[bN,dF (show¬(i:Int)<(a.length:Int) by omega),dT (show(i:Int)<(b.length:Int) by omega),r6,f1,f2,f3,f4,f5,f6,d9,eD,oB];exact y K j (Nat.lt_of_succ_lt_succ f)
   ·by_cases L:0<c
    ·obtain⟨r,g1,q,s,y⟩:=go (fun e=>⟨rQ (by omega),rQ (by omega)⟩) (by
      rcases Nat.lt_or_ge (M) i with h|h
      ·have:=hc (by omega);omega
      ·exact h)
     refine⟨r,g1,q,s,fun K k f=>?_⟩;obtain⟨j,rfl,_⟩:=cF f;simp only[bN,dF (show¬(i:Int)<(a.length:Int) by omega),dF (show¬(i:Int)<(b.length:Int) by omega),dT L,r6,f1,f2,f3,f4,f5,f6,d9,eD,oB];exact y K j (Nat.lt_of_succ_lt_succ f)
    ·refine⟨out,by omega,F,?_,fun K k f=>?_⟩
     ·rw[w7 (u:=a) (by omega),w7 (u:=b) (by omega)]at J;have:c=0:=by omega
      subst this;unfold vD;rw[z];omega
     ·obtain⟨j,rfl,_⟩:=cF f;simp only[bN,dF (show¬(i:Int)<(a.length:Int) by omega),dF (show¬(i:Int)<(b.length:Int) by omega),dF L,eD]
theorem aHw{a b:List Int}(e:kM a)(hb:kM b)(q:a.length≤50000000000)(hM:b.length≤50000000000):∃r,kM r∧r.length≤max a.length b.length+1∧vD r=vD a+vD b∧Ev (fun K=>mZ K a b) r:=by
 obtain⟨r,f,h,j,k⟩:=aG8 (M:=max a.length b.length) e hb (by omega) (by omega) (by omega) _ 0 [] 0 rfl (by omega) rfl kM.nil (by omega) (by omega) (by omega) (by simp[W]);refine⟨r,h,f,j,⟨max a.length b.length+2,fun K s=>?_⟩⟩;have:=k K K (by omega);simp only[Int.natCast_zero]at this;simp only[mZ,this,oB,mO]
theorem aAo{a b:List Int}(s:kM a)(hb:kM b)(hbl:b.length≤a.length)(hv:vD b≤vD a)(J:a.length≤50000000000):∀(t i:Nat) (out:List Int) (c:Int),i+t=a.length→out.length=i→kM out→0≤c→c≤1→W out 0 i-c*PB i=W a 0 i-W b 0 i→
  ∃r,r.length=a.length∧kM r∧vD r=vD a-vD b∧∀K k,t<k→dJ K a b k out c (i:Int)=some r
 |0,i,out,c,hi,e,f,y,z,L=>by
  have:i=a.length:=by omega
  subst this;refine⟨out,e,f,?_,fun K k j=>?_⟩
  ·rw[w7 (u:=b) hbl]at L;have hlt:=f.lt;unfold vD at *;rw[e]at hlt ⊢;have:c=0:=by
    rcases Int.lt_or_le 0 c with h|h
    ·have:c=1:=by omega
     subst this;omega
    ·omega
   subst this;omega
  ·obtain⟨q,rfl,_⟩:=cF j;simp[dJ]
 |t+1,i,out,c,hi,e,f,y,z,L=>by
  have ha':=s i;have hb':=hb i;have O:decide ((i:Int)<(a.length:Int))=true:=dT (by omega);have U:=cV (xs:=a) (i:=i) (by omega);have f1:aV (a.getD i 0-b.getD i 0)=some (a.getD i 0-b.getD i 0):=qB (by omega);have f2:aV (a.getD i 0-b.getD i 0-c)=some (a.getD i 0-b.getD i 0-c):=qB (by omega);have f5:aV ((i:Int)+1)=some ((i+1:Nat):Int):=tK (m:=0) (by omega) (by omega);have f6:∀x:Int,uK out [x]=some (out++[x]):=fun x=>aMr (by omega)
  by_cases V:a.getD i 0-b.getD i 0-c<0
  ·have f3:aV (a.getD i 0-b.getD i 0-c+1000000000)=some (a.getD i 0-b.getD i 0-c+1000000000):=qB (by omega);obtain⟨r,g1,F,G,I⟩:=aAo s hb hbl hv J t (i+1) (out++[a.getD i 0-b.getD i 0-c+1000000000]) 1 (by omega) (by simp;omega) (f.snoc (by omega) (by omega)) (by omega) (by omega) (by
    rw[aL0 e,dG,dG,Nat.zero_add];simp only[PB];grind)
   refine⟨r,g1,F,G,fun K k j=>?_⟩;obtain⟨q,rfl,_⟩:=cF j;simp only[dJ,O,U,r6,f1,f2,f3,f5,f6,dT V,d9,oB];exact I K q (by omega)
  ·obtain⟨r,g1,F,G,I⟩:=aAo s hb hbl hv J t (i+1) (out++[a.getD i 0-b.getD i 0-c]) 0 (by omega) (by simp;omega) (f.snoc (by omega) (by omega)) (by omega) (by omega) (by
    rw[aL0 e,dG,dG,Nat.zero_add];simp only[PB];grind)
   refine⟨r,g1,F,G,fun K k j=>?_⟩;obtain⟨q,rfl,_⟩:=cF j;simp only[dJ,O,U,r6,f1,f2,f5,f6,dF V,d9,eD,oB];exact I K q (by omega)
theorem xB{a b:List Int}(e:kM a)(hb:kM b)(hbl:b.length≤a.length)(hv:vD b≤vD a)(f:a.length≤50000000000):
  ∃r,r.length=a.length∧kM r∧vD r=vD a-vD b∧Ev (fun K=>eU K a b) r:=by
 obtain⟨r,g1,j,k,q⟩:=aAo e hb hbl hv f a.length 0 [] 0 (by omega) rfl kM.nil (by omega) (by omega) (by simp[W]);refine⟨r,g1,j,k,⟨a.length+1,fun K s=>?_⟩⟩;have h:=q K K (by omega);simp only[Int.natCast_zero]at h;simp only[eU,oB,h,l8]
theorem aAC{u v:List Int}(hu:kM u)(hv:kM v)(x:u.length=v.length)(y:u.length≤9000000000000):∀(j:Nat),j≤u.length→∀K k,j<k→
  cU K u v k ((j:Int)-1)=some (if W u 0 j<W v 0 j then .ret (-1) else if W v 0 j<W u 0 j then .ret 1 else .go ())
 |0,_,K,k,e=>by
  obtain⟨t,rfl,_⟩:=cF e;simp[cU,W]
 |j+1,J,K,k,e=>by
  obtain⟨t,rfl,z⟩:=cF e;have F:((j+1:Nat):Int)-1=(j:Int):=by omega
  have f:decide (0≤(j:Int))=true:=dT (by omega);have q:=cV (xs:=u) (i:=j) (by omega);have s:=cV (xs:=v) (i:=j) (by omega);rw[F];rcases Int.lt_trichotomy (u.getD j 0) (v.getD j 0) with h|h|h
  ·have:=aF7 hu hv h;simp only[cU,f,q,s,dT h,d9,oB];rw[if_pos this]
  ·have G:aV ((j:Int)-1)=some ((j:Int)-1):=qB (by omega);have ih:=aAC hu hv x y j (by omega) K t (by omega);have c1:(W u 0 (j+1)<W v 0 (j+1))↔(W u 0 j<W v 0 j):=by rw[dG,dG,Nat.zero_add,h];omega
   have I:(W v 0 (j+1)<W u 0 (j+1))↔(W v 0 j<W u 0 j):=by rw[dG,dG,Nat.zero_add,h];omega
   simp only[cU,f,q,s,dF (show¬u.getD j 0<v.getD j 0 by omega),dF (show¬v.getD j 0<u.getD j 0 by omega),G,d9,eD,oB,c1,I];exact ih
  ·have:=aF7 hv hu h;simp only[cU,f,q,s,dF (show¬u.getD j 0<v.getD j 0 by omega),dT h,d9,eD,oB];rw[if_neg (by omega),if_pos this]
theorem vZ{u v:List Int}(hu:kM u)(hv:kM v)(tu:Top u)(tv:Top v)(j:u.length≤9000000000000):Ev (fun K=>cN K u v) (uP (vD u) (vD v)):=by
 refine⟨u.length+1,fun K s=>?_⟩;unfold uP;rcases Nat.lt_trichotomy u.length v.length with h|h|h
 ·have:=aDL hu hv tv h;simp only[cN,dT (show(u.length:Int)<(v.length:Int) by omega),d9];rw[if_pos this]
 ·have k:aV ((u.length:Int)-1)=some ((u.length:Int)-1):=qB (by omega);have q:=aAC hu hv h j u.length (Nat.le_refl _) K K (by omega);simp only[cN,dF (show¬(u.length:Int)<(v.length:Int) by omega),dF (show¬(v.length:Int)<(u.length:Int) by omega),k,q,eD,oB];unfold vD;rw[←h];by_cases e:W u 0 u.length<W v 0 u.length
  ·rw[if_pos e,if_pos e]
  ·rw[if_neg e,if_neg e];by_cases f:W v 0 u.length<W u 0 u.length
   ·rw[if_pos f,if_pos f]
   ·rw[if_neg f,if_neg f];rfl
 ·have:=aDL hv hu tu h;simp only[cN,dF (show¬(u.length:Int)<(v.length:Int) by omega),dT (show(v.length:Int)<(u.length:Int) by omega),d9,eD];rw[if_neg (by omega),if_pos this]
theorem aEu(x:Int)(j:dl x.natAbs≤60000000000):Ev (fun K=>mI K (Z x)) (Z (-x)):=by
 unfold mI;have h:=iG (!decide (x<0)) (bT x.natAbs) (by show dl _≤_;omega);rw[dX,Int.toNat_natCast,rF]at h;have e:(if(!decide (x<0))=true then -(x.natAbs:Int) else(x.natAbs:Int))=-x:=by
  by_cases f:x<0
  ·rw[dT f];simp;omega
  ·rw[dF f];simp;omega
 rw[e]at h;exact Ev.bind h (Ev.pure _)
theorem aJd{x y:Int}(z:dl x.natAbs≤40000000000)(F:dl y.natAbs≤40000000000):Ev (fun K=>nY K (Z x) (Z y)) (Z (x+y)):=by
 have dx:=bT x.natAbs;have dy:=bT y.natAbs;have vx:=dX x.natAbs;have vy:=dX y.natAbs;have tx:=oJ x.natAbs;have ty:=oJ y.natAbs;have lx:(bP x.natAbs).length≤40000000000:=z;have ly:(bP y.natAbs).length≤40000000000:=F;unfold nY;simp only[Z_d,sW];by_cases hs:(decide (x<0)==decide (y<0))=true
 ·simp only[hs,d9];obtain⟨r,k,j,u,e⟩:=aHw dx dy (by omega) (by omega);have f:=iG (decide (x<0)) k (by omega);refine Ev.bind e (Ev.bind f ?_);rw[rF];have q:(x<0)↔(y<0):=by simpa using hs
  have:(if decide (x<0)=true then -(((vD r).toNat:Nat):Int) else(((vD r).toNat:Nat):Int))=x+y:=by
   by_cases h:x<0
   ·rw[if_pos (by simpa using h)];omega
   ·rw[if_neg (by simpa using h)];omega
  rw[this];exact Ev.pure _
 ·simp only[Bool.not_eq_true]at hs;simp only[hs,eD];have q:¬((x<0)↔(y<0)):=by simpa using hs
  refine Ev.bind (vZ dx dy tx ty (by omega)) ?_;rw[vx,vy];unfold uP;by_cases hlt:x.natAbs<y.natAbs
  ·have hle:(bP x.natAbs).length≤(bP y.natAbs).length:=n9 (by omega);obtain⟨r,k,j,u,e⟩:=xB dy dx hle (by omega) (by omega);have f:=iG (decide (y<0)) j (by omega);rw[if_pos (by omega)];refine Ev.congr (g:=fun K=>(eU K (bP y.natAbs) (bP x.natAbs)).bind fun s=>(aU K (decide (y<0)) s).bind fun t=>some t) ?_ (fun K=>rfl);refine Ev.bind e (Ev.bind f ?_);rw[rF];have:(if decide (y<0)=true then -(((vD r).toNat:Nat):Int) else(((vD r).toNat:Nat):Int))=x+y:=by
    by_cases h:y<0
    ·rw[if_pos (by simpa using h)];omega
    ·rw[if_neg (by simpa using h)];omega
   rw[this];exact Ev.pure _
  ·have hle:(bP y.natAbs).length≤(bP x.natAbs).length:=n9 (by omega);obtain⟨r,k,j,u,e⟩:=xB dx dy hle (by omega) (by omega);have f:=iG (decide (x<0)) j (by omega);have hc:decide ((if(x.natAbs:Int)<y.natAbs then(-1:Int) else if(y.natAbs:Int)<x.natAbs then 1 else 0)<0)=false:=by
    rw[if_neg (by omega)];split<;>rfl
   simp only[hc,eD];refine Ev.bind e (Ev.bind f ?_);rw[rF];have:(if decide (x<0)=true then -(((vD r).toNat:Nat):Int) else(((vD r).toNat:Nat):Int))=x+y:=by
    by_cases h:x<0
    ·rw[if_pos (by simpa using h)];omega
    ·rw[if_neg (by simpa using h)];omega
   rw[this];exact Ev.pure _
theorem aEI{f:List Int}{x y:aF}{i:Nat}(s:kM x.d)(hb:kM y.d)(u:i<x.d.length)(I:i+y.d.length≤f.length)(J:f.length≤9000000000000):∀(t k:Nat) (out:List Int) (c:Int),k+t=y.d.length→aD2 f y.d i (x.d.getD i 0) out c k→
  ∃out' c',aD2 f y.d i (x.d.getD i 0) out' c' y.d.length∧∀K n,t<n→fR K x y (i:Int) n out c (k:Int)=some (out',c')
 |0,k,out,c,L,e=>by
  have:k=y.d.length:=by omega
  subst this;refine⟨out,c,e,fun K n h=>?_⟩;obtain⟨F,rfl,_⟩:=cF h;simp[fR]
 |t+1,k,out,c,L,e=>by
  have G:=s i;obtain⟨g1,g2,g3,g4,g5,g6,O⟩:=e.step (by omega) G.1 G.2 hb;have c0:=e.c0;have c1:=e.c1;have hlo:=e.len;have U:=cV (xs:=x.d) (i:=i) u;have V:decide ((k:Int)<(y.d.length:Int))=true:=dT (by omega);have e2:=cV (xs:=y.d) (i:=k) (by omega);have e3:aV ((k:Int)+1)=some ((k+1:Nat):Int):=tK (m:=0) (by omega) (by omega);have e4:aV ((i:Int)+(k:Int))=some ((i+k:Nat):Int):=tK (m:=0) (by omega) (by omega);have e5:=cV (xs:=out) (i:=i+k) (by omega);have e6:aV (x.d.getD i 0*y.d.getD k 0)=some (x.d.getD i 0*y.d.getD k 0):=qB (by omega);have e7:aV (out.getD (i+k) 0+x.d.getD i 0*y.d.getD k 0)=some (out.getD (i+k) 0+x.d.getD i 0*y.d.getD k 0):=qB (by omega);have e8:aV (out.getD (i+k) 0+x.d.getD i 0*y.d.getD k 0+c)=some (out.getD (i+k) 0+x.d.getD i 0*y.d.getD k 0+c):=qB (by omega);have e9:vX (out.getD (i+k) 0+x.d.getD i 0*y.d.getD k 0+c) 1000000000=some ((out.getD (i+k) 0+x.d.getD i 0*y.d.getD k 0+c)/1000000000):=qL (by omega) (by omega) (by omega);have j:wA (out.getD (i+k) 0+x.d.getD i 0*y.d.getD k 0+c) 1000000000=some ((out.getD (i+k) 0+x.d.getD i 0*y.d.getD k 0+c)%1000000000):=oV (by omega) (by omega);have q:∀z,oZ out ((i+k:Nat):Int) z=some (out.set (i+k) z):=fun z=>p7 (by omega)
  obtain⟨o,d,h1,h2⟩:=aEI s hb u I J t (k+1) _ _ (by omega) O;refine⟨o,d,h1,fun K n h=>?_⟩;obtain⟨F,rfl,_⟩:=cF h;simp only[fR,U,V,e2,e3,e4,e5,e6,e7,e8,e9,j,q,d9,oB];exact h2 K F (by omega)
theorem aFa{x y:aF}(h:kM x.d)(hb:kM y.d)(s:x.d.length+y.d.length≤9000000000000):∀(t i:Nat) (out:List Int),i+t=x.d.length→aBs x.d y.d out i→
  ∃out',aBs x.d y.d out' x.d.length∧sB (fun K k=>fS K x y k out (i:Int)) out'
 |0,i,out,u,e=>by
  have:i=x.d.length:=by omega
  subst this;refine⟨out,e,sB.of 1 fun K n z=>?_⟩;obtain⟨n',rfl,_⟩:=cF (n:=0) z;simp[fS]
 |t+1,i,out,u,e=>by
  have hlo:=e.len;obtain⟨o,c,j,F⟩:=aEI h hb (by omega) (by omega) (by omega) y.d.length 0 out 0 (by omega) e.row;have q:=j.len;obtain⟨r,G,I⟩:=aFa h hb s t (i+1) _ (by omega) (e.next (by omega) j);refine⟨r,G,sB.step ?_⟩;have J:decide ((i:Int)<(x.d.length:Int))=true:=dT (by omega);have L:aV ((i:Int)+1)=some ((i+1:Nat):Int):=tK (m:=0) (by omega) (by omega);have O:aV ((i:Int)+(y.d.length:Int))=some ((i+y.d.length:Nat):Int):=tK (m:=0) (by omega) (by omega);have U:=cV (xs:=o) (i:=i+y.d.length) (by omega);have V:oZ o ((i+y.d.length:Nat):Int) c=some (o.set (i+y.d.length) c):=p7 (by omega);simp only[fS,J,d9];refine sB.bind (x:=(o,c)) (f:=fun K=>fR K x y (i:Int) K out 0 0) ⟨y.d.length+1,fun K hK=>F K K (by omega)⟩ ?_;simp only[nC,L,O,U,V,oB];exact I
theorem aId{x y:Int}(s:dl x.natAbs+dl y.natAbs≤60000000000):Ev (fun K=>nZ K (Z x) (Z y)) (Z (x*y)):=by
 have dx:=bT x.natAbs;have dy:=bT y.natAbs;have lx:(bP x.natAbs).length=dl x.natAbs:=rfl;have ly:(bP y.natAbs).length=dl y.natAbs:=rfl;obtain⟨r,e,f⟩:=aFa (x:=Z x) (y:=Z y) dx dy (by rw[o6,o6];omega) (Z x).d.length 0 _ (by omega) (aBs.start _ _);have h:aV (((Z x).d.length:Int)+((Z y).d.length:Int))=some (((Z x).d.length+(Z y).d.length:Nat):Int):=tK (m:=0) (by omega) (by rw[o6,o6];omega);have j:xU (((Z x).d.length+(Z y).d.length:Nat):Int) (0:Int)=some (List.replicate ((Z x).d.length+(Z y).d.length) 0):=xC (by rw[o6,o6];omega);unfold nZ;simp only[h,j,oB];refine Ev.bind f.ev ?_;have k:=iG ((Z x).neg != (Z y).neg) e.ok (by rw[e.len,o6,o6];omega);unfold nJ;refine Ev.bind k ?_;have hv:vD r=x.natAbs*y.natAbs:=by
  have:=e.val;rw[←e.len]at this;have vx:=dX x.natAbs;have vy:=dX y.natAbs;unfold vD at *;rw[this];show W (bP x.natAbs) 0 (bP x.natAbs).length*W (bP y.natAbs) 0 (bP y.natAbs).length=_;rw[vx,vy]
 rw[rF,sW,sW,hv];have:(if(decide (x<0) != decide (y<0))=true then -((((x.natAbs:Int)*y.natAbs).toNat:Nat):Int) else((((x.natAbs:Int)*y.natAbs).toNat:Nat):Int))=x*y:=by
  have q:0≤(x.natAbs:Int)*y.natAbs:=Int.mul_nonneg (by omega) (by omega);rw[Int.toNat_of_nonneg q];exact aDz x y
 rw[this];exact Ev.pure _
theorem yX{u:List Int}(hu:kM u)(h:u.length≤2):fJ u=some (vD u):=by
 have e:=hu 0;have f:=hu 1;have d0:=r6 u 0;have d1:=r6 u 1;simp only[Int.natCast_zero,Int.natCast_one]at d0 d1;have f1:aV (u.getD 1 0*1000000000)=some (u.getD 1 0*1000000000):=qB (by omega);have f2:aV (u.getD 1 0*1000000000+u.getD 0 0)=some (u.getD 1 0*1000000000+u.getD 0 0):=qB (by omega);simp only[fJ,d0,d1,f1,f2,oB];have:vD u=W u 0 2:=(w7 h).symm;rw[this,W2,Nat.zero_add];congr 1;omega
theorem aCS(n:Nat):(Z (n:Int)).d=bP n:=by rw[Z_d];simp
theorem aCF(n k:Nat)(h:k≤999999999)(j:dl n≤40000000000):Ev (fun K=>gU K (bP n) (k:Int)) (bP (n*k)):=by
 unfold gU;have e:=iG false (bT n) (by show dl _≤_;omega);rw[dX,Int.toNat_natCast,l9]at e;refine Ev.bind e (Ev.bind (yV (n:=(k:Int)) (by omega)) ?_);have f:dl k≤1:=z3 (by
  have:PB 1=1000000000:=by decide
  omega)
 refine Ev.bind (aId (x:=(n:Int)) (y:=(k:Int)) (by simp;omega)) ?_;have:(Z ((n:Int)*k)).d=bP (n*k):=by rw[←Int.natCast_mul,aCS]
 rw[this];exact Ev.pure _
theorem aMn(a b:Int):decide (uP a b≤0)=decide (a≤b):=by
 unfold uP;by_cases h:a<b
 ·rw[if_pos h,dT (by omega),dT (by omega)]
 ·rw[if_neg h];by_cases e:b<a
  ·rw[if_pos e,dF (by omega),dF (by omega)]
  ·rw[if_neg e,dT (by omega),dT (by omega)]
theorem aLK(a b:Int):decide (uP a b<0)=decide (a<b):=by
 unfold uP;by_cases h:a<b
 ·rw[if_pos h,dT (by omega),dT h]
 ·rw[if_neg h,dF h];by_cases e:b<a
  ·rw[if_pos e];rfl
  ·rw[if_neg e];rfl
theorem aAF{n R:Nat}(L:0<n)(x:dl n≤40000000000)(O:dl R≤90000000000):∀(t lo e:Nat),e-lo≤t→lo≤e→e≤999999999→lo*n≤R→R<(e+1)*n→sB (fun K k=>bG K (bP n) (Z (R:Int)) k (lo:Int) (e:Int)) ((R/n:Nat):Int):=by
 intro t
 induction t with
 |zero=>
  intro lo e y hle hhi f h;have:lo=e:=by omega
  subst this;refine sB.of 1 fun K k j=>?_
  obtain⟨z,rfl,_⟩:=cF (n:=0) j;have:R/n=lo:=Nat.div_eq_of_lt_le f h;simp only[bG,dF (show¬(lo:Int)<(lo:Int) by omega),eD,this]
 |succ t ih=>
  intro lo e y hle hhi f h;by_cases hlt:lo<e
  ·refine sB.step ?_;have F:aV ((lo:Int)+(e:Int))=some ((lo+e:Nat):Int):=tK (m:=0) (by omega) (by omega);have G:aV (((lo+e:Nat):Int)+1)=some ((lo+e+1:Nat):Int):=tK (m:=0) (by omega) (by omega);have u:vX ((lo+e+1:Nat):Int) 2=some (((lo+e+1)/2:Nat):Int):=by rw[qL (by omega) (by omega) (by omega)];congr 1
   obtain⟨mid,hm⟩:∃m,(lo+e+1)/2=m:=⟨_,rfl⟩;rw[hm]at u;have I:lo<mid:=by omega
   have q:mid≤e:=by omega
   simp only[bG,dT (show(lo:Int)<(e:Int) by omega),d9,F,G,u,oB];refine sB.bind (aCF n mid (by omega) x) ?_;have hdm:dl (n*mid)≤9000000000000:=by
    have:=aCn n mid;have:dl mid≤1:=z3 (by
     have:PB 1=1000000000:=by decide
     omega)
    omega
   rw[aCS];refine sB.bind (vZ (bT _) (bT _) (oJ _) (oJ _) hdm) ?_;rw[dX,dX,aMn];by_cases hc:n*mid≤R
   ·have s:decide (((n*mid:Nat):Int)≤(R:Int))=true:=dT (by omega);simp only[s,d9];exact ih mid e (by omega) q hhi (by rw[Nat.mul_comm];exact hc) h
   ·have s:decide (((n*mid:Nat):Int)≤(R:Int))=false:=dF (by omega);have J:aV ((mid:Int)-1)=some ((mid-1:Nat):Int):=tK (m:=0) (by omega) (by omega);simp only[s,eD,J,oB];refine ih lo (mid-1) (by omega) (by omega) (by omega) f ?_;rw[show mid-1+1=mid by omega,Nat.mul_comm];omega
  ·have:lo=e:=by omega
   subst this;refine sB.of 1 fun K k j=>?_
   obtain⟨z,rfl,_⟩:=cF (n:=0) j;have:R/n=lo:=Nat.div_eq_of_lt_le f h;simp only[bG,dF (show¬(lo:Int)<(lo:Int) by omega),eD,this]
theorem aAv{a:List Int}{n:Nat}(J:kM a)(x:0<n)(y:dl n≤40000000000)(hM:a.length≤40000000000):∀(j:Nat) (q:List Int) (r:Nat),j≤a.length→q.length=a.length→Dr q j (a.length-j)→r<n→W a j (a.length-j)=n*W q j (a.length-j)+r→
  ∃f h,f.length=a.length∧kM f∧h<n∧vD a=n*vD f+(h:Nat)∧sB (fun K k=>aW K a (bP n) k q (bP r) ((j:Int)-1)) (f,bP h)
 |0,q,r,U,t,F,hr,z=>by
  refine⟨q,r,t,Dr.ok (by rw[t];simpa using F),hr,?_,sB.of 1 fun K k V=>?_⟩
  ·simp only[Nat.sub_zero]at z;unfold vD;rw[t];exact z
  ·obtain⟨k',rfl,_⟩:=cF (n:=0) V;simp[aW]
 |j+1,q,r,U,t,F,hr,z=>by
  have u:=J j;have e0:((j+1:Nat):Int)-1=(j:Int):=by omega
  have e1:decide (0≤(j:Int))=true:=dT (by omega);have e2:=cV (xs:=a) (i:=j) (by omega);have e3:aV ((j:Int)-1)=some ((j:Int)-1):=qB (by omega);have e4:=cV (xs:=q) (i:=j) (by omega);have e5:∀v,oZ q (j:Int) v=some (q.set j v):=fun v=>p7 (by omega)
  have hrl:dl r≤dl n:=n9 (by omega);have hrl':(bP r).length=dl r:=rfl;have e6:uK [a.getD j 0] (bP r)=some (a.getD j 0::bP r):=aAp (by simp;omega);obtain⟨R,hR⟩:∃R:Nat,(R:Int)=a.getD j 0+1000000000*r:=⟨(a.getD j 0+1000000000*r).toNat,by omega⟩;have hd:kM (a.getD j 0::bP r):=(bT r).cons u.1 u.2;have hv:vD (a.getD j 0::bP r)=R:=by
   rw[hR];have:vD (a.getD j 0::bP r)=a.getD j 0+1000000000*vD (bP r):=aFP _ _;rw[this,dX]
  have L:=iG false hd (by simp;omega);rw[hv,Int.toNat_natCast,l9]at L;have G:R<1000000000*n:=by
   have:(R:Int)<1000000000*n:=by omega
   omega
  have hRl:dl R≤dl n+1:=z3 (by
   have:=aCC n;simp only[PB];omega)
  have I:R/n<1000000000:=Nat.div_lt_of_lt_mul (by rw[Nat.mul_comm];exact G);have hnm:=Nat.div_add_mod R n;have hml:=Nat.mod_lt R x;have hdig:Ev (fun K=>(bif decide (R<n) then bG K (bP n) (Z (R:Int)) K 0 0 else bG K (bP n) (Z (R:Int)) K 0 999999999)) ((R/n:Nat):Int):=by
   by_cases hlt:R<n
   ·rw[dT hlt];simp only[d9];exact(aAF x y (by omega) 0 0 0 (by omega) (by omega) (by omega) (by omega) (by omega)).ev
   ·rw[dF hlt];simp only[eD];exact(aAF x y (by omega) 999999999 0 999999999 (by omega) (by omega) (by omega) (by omega) (by omega)).ev
  have h2:=aCF n (R/n) (by omega) y;have hle:n*(R/n)≤R:=by omega
  obtain⟨s,s1,s2,s3,s4⟩:=xB (bT R) (bT (n*(R/n))) (n9 hle) (by rw[dX,dX];omega) (by show dl R≤_;omega);rw[dX,dX]at s3;have O:=iG false s2 (by rw[s1];show dl R≤_;omega);have hs:(vD s).toNat=R%n:=by omega
  rw[hs,l9]at O;have es:a.length-j=(a.length-(j+1))+1:=by omega
  obtain⟨f,h,g1,g2,g3,g4,g5⟩:=aAv J x y hM j (q.set j ((R/n:Nat):Int)) (R%n) (by omega) (by simpa using t)
   (fun i hi=>by
    by_cases e:i=0
    ·subst e;rw[Nat.add_zero,dU (by omega)];exact⟨Int.natCast_nonneg _,Int.ofNat_lt.2 I⟩
    ·rw[eO (by omega)];have:=F (i-1) (by omega)
     rwa [show j+1+(i-1)=j+i by omega]at this) hml (by
    rw[es,aAi,aAi,dU (by omega),t5 (.inl (by omega)),z];have:(R:Int)=n*(R/n:Nat)+(R%n:Nat):=by rw[←Int.natCast_mul,←Int.natCast_add,hnm]
    grind)
  refine⟨f,h,g1,g2,g3,g4,sB.step ?_⟩;rw[e0];simp only[aW,e1,e2,e6,d9,oB];refine sB.bind L ?_;rw[aCS];refine sB.bind (vZ (bT _) (bT _) (oJ _) (oJ _) (by show dl R≤_;omega)) ?_;rw[dX,dX,aLK];have cX:sB (fun K k=>gG K (bP n) q (j:Int) (Z (R:Int)) (aW K a (bP n) k) ((R/n:Nat):Int)) (f,bP h):=by
   simp only[gG];refine sB.bind h2 ?_;rw[aCS];refine sB.bind s4 (sB.bind O ?_);simp only[e3,e4,e5,oB,aCS];exact g5
  by_cases hlt:R<n
  ·have c1:decide ((R:Int)<(n:Int))=true:=dT (by omega);rw[dT hlt]at hdig;simp only[d9]at hdig;simp only[c1,d9,eY];exact sB.bind hdig cX
  ·have c1:decide ((R:Int)<(n:Int))=false:=dF (by omega);rw[dF hlt]at hdig;simp only[eD]at hdig;simp only[c1,eD,eY];exact sB.bind hdig cX
theorem aCx(K:Nat)(b:List Int)(x:aF):∀(k:Nat) (lo e:Int),eF K b x k lo e=bG K b x k lo e
 |0,_,_=>rfl
 |k+1,lo,e=>by simp only[eF,bG,aCx K b x k]
theorem aCG(K:Nat)(a b:List Int):∀(k:Nat) (q r:List Int) (j:Int),cA K a b k q r j=aW K a b k q r j
 |0,_,_,_=>rfl
 |k+1,q,r,j=>by
  have ih:cA K a b k=aW K a b k:=by funext q r j;exact aCG K a b k q r j
  simp only[cA,aW,iM,eY,kS,gG,aCx,ih]
theorem aEa{m n:Nat}(e:0<n)(F:dl n≤40000000000)(hM:dl m≤40000000000):∃q,q.length≤dl m+2∧kM q∧vD q=(m/n:Nat)∧Ev (fun K=>gX K (bP m) (bP n)) (q,bP (m%n)):=by
 have dm:=bT m;have dn:=bT n;have vm:=dX m;have vn:=dX n;have lm:(bP m).length=dl m:=rfl;have ln:(bP n).length=dl n:=rfl;obtain⟨q,r,g1,f,t,u,x⟩:=aAv (a:=bP m) dm e F (by omega) (bP m).length (List.replicate (bP m).length 0) 0 (Nat.le_refl _) (by simp) (aEi _ _ _) e (by simp[W]);rw[vm]at u;have hqn:=f.nonneg;have hmn:m=n*(vD q).toNat+r:=by
  have:(m:Int)=((n*(vD q).toNat+r:Nat):Int):=by rw[u,Int.natCast_add,Int.natCast_mul,Int.toNat_of_nonneg hqn]
  omega
 have L:(vD q).toNat=m/n:=by
  rw[hmn,Nat.mul_add_div e,Nat.div_eq_of_lt t,Nat.add_zero]
 have hr:r=m%n:=by rw[hmn,Nat.mul_add_mod,Nat.mod_eq_of_lt t]
 subst hr;rw[vG]at x;have G:xU ((bP m).length:Int) (0:Int)=some (List.replicate (bP m).length 0):=xC (by omega);have I:aV (((bP m).length:Int)-1)=some (((bP m).length:Int)-1):=qB (by omega);have core:Ev (fun K=>(xU ((bP m).length:Int) (0:Int)).bind fun h=>(aV (((bP m).length:Int)-1)).bind fun j=>(aW K (bP m) (bP n) K h [] j).bind fun(k,s)=>iZ K k s) (q,bP (m%n)):=by
  simp only[G,I,oB];refine Ev.bind x.ev ?_;simp only[iZ];exact Ev.pure _
 by_cases y:(bP m).length≤2
 ·by_cases z:(bP n).length≤2
  ·have O:=uM y;have b2:=uM z;have U:=Nat.div_le_self m n;have hm:=Nat.mod_le m n;refine⟨bP (m/n),by have:=aFV m n;show dl _≤_;omega,bT _,dX _,?_⟩;have c1:vX (m:Int) (n:Int)=some ((m/n:Nat):Int):=by rw[qL (by omega) (by omega) (by omega)];simp
   have J:wA (m:Int) (n:Int)=some ((m%n:Nat):Int):=by rw[oV (by omega) (by omega)];simp
   unfold gX;simp only[dT (show((bP m).length:Int)≤2 by omega),dT (show((bP n).length:Int)≤2 by omega),d9,yX dm y,yX dn z,vm,vn,c1,J,oB];refine Ev.bind (yV (by omega)) (Ev.bind (yV (by omega)) ?_);rw[aCS,aCS];exact Ev.pure _
  ·refine⟨q,by omega,f,by omega,?_⟩;unfold gX;simp only[dT (show((bP m).length:Int)≤2 by omega),dF (show¬((bP n).length:Int)≤2 by omega),d9,eD];exact core
 ·refine⟨q,by omega,f,by omega,?_⟩;unfold gX;simp only[dF (show¬((bP m).length:Int)≤2 by omega),eD,aCG];exact core
theorem aBr{x y a b:Int}(f:y≠0)(h:x=y*a+b)(e:0≤b)(k:b<y.natAbs):x/y=a∧x%y=b:=by
 have hm:x%y=b:=by
  rw[h,Int.add_comm,Int.add_mul_emod_self_left];by_cases j:y<0
  ·have:b%y=b% -y:=by rw[Int.emod_neg]
   rw[this,Int.emod_eq_of_lt e (by omega)]
  ·exact Int.emod_eq_of_lt e (by omega)
 refine⟨?_,hm⟩;have q:=Int.mul_ediv_add_emod x y;exact Int.eq_of_mul_eq_mul_left f (by omega)
theorem aCc{x y:Int}(j:y≠0)(hx:dl x.natAbs≤30000000000)(V:dl y.natAbs≤30000000000):Ev (fun K=>jI K (Z x) (Z y)) (Z (x/y),Z (x%y)):=by
 have e1:(((bP y.natAbs).length:Int)==0)=false:=qF (by
  show(dl y.natAbs:Int)≠0;have:dl y.natAbs≠0:=by rw[Ne,s5];omega
  omega)
 obtain⟨q,q1,q2,q3,q4⟩:=aEa (m:=x.natAbs) (n:=y.natAbs) (by omega) (by omega) (by omega);have hdm:=aFV x.natAbs y.natAbs;have hmm:=aD1 x.natAbs y.natAbs;have hnd:=Nat.div_add_mod x.natAbs y.natAbs;have hml:=Nat.mod_lt x.natAbs (show 0<y.natAbs by omega);have hln:(bP (x.natAbs%y.natAbs)).length=dl (x.natAbs%y.natAbs):=rfl;have G:=iG (decide (x<0) != decide (y<0)) q2 (by omega);have I:=iG false (bT (x.natAbs%y.natAbs)) (by omega);rw[q3,Int.toNat_natCast,rF]at G;rw[dX,Int.toNat_natCast,l9]at I;unfold jI;simp only[Z_d,sW,e1,eD];refine Ev.bind q4 (Ev.bind G (Ev.bind I ?_));have c1:(x.natAbs:Int)=(y.natAbs:Int)*((x.natAbs/y.natAbs:Nat):Int)+((x.natAbs%y.natAbs:Nat):Int):=by
  rw[←Int.natCast_mul,←Int.natCast_add,hnd]
 generalize x.natAbs/y.natAbs=Q at *;generalize x.natAbs%y.natAbs=R at *;by_cases k:x<0
 ·have z:decide (x<0)=true:=dT k;by_cases J:R=0
  ·subst J;have F:decide (0<((Z ((0:Nat):Int)).d.length:Int))=false:=by rw[Z_d,show((0:Nat):Int).natAbs=0 from rfl,vG];rfl
   simp only[z,F,d9,eD];by_cases e:y<0
   ·rw[dT e];rw[show(y.natAbs:Int)=-y by omega,show(x.natAbs:Int)=-x by omega,Int.neg_mul]at c1;obtain⟨f,h⟩:=aBr (x:=x) (y:=y) (a:=Q) (b:=0) j (by omega) (by omega) (by omega);rw[f,h];exact Ev.pure _
   ·rw[dF e];rw[show(y.natAbs:Int)=y by omega,show(x.natAbs:Int)=-x by omega]at c1;obtain⟨f,h⟩:=aBr (x:=x) (y:=y) (a:=-Q) (b:=0) j (by rw[Int.mul_neg];omega) (by omega) (by omega);rw[f,h];exact Ev.pure _
  ·have hrl:dl R≠0:=by rw[Ne,s5];exact J
   have F:decide (0<((Z (R:Int)).d.length:Int))=true:=dT (by rw[o6];simp only[Int.natAbs_natCast];omega);simp only[z,F,d9];have L:=iG (true != decide (y<0)) (u:=[1]) (kM.nil.cons (by omega) (by omega)) (by simp);rw[vD1,show(1:Int).toNat=1 from rfl,rF]at L;obtain⟨s,s1,s2,O,s4⟩:=xB (bT y.natAbs) (bT R) (n9 (by omega)) (by rw[dX,dX];omega) (by show dl _≤_;omega);rw[dX,dX]at O;have U:=iG false s2 (by rw[s1];show dl _≤_;omega);rw[O,l9]at U;refine Ev.bind L ?_;have hsz:∀b:Bool,dl (if b=true then -(Q:Int) else(Q:Int)).natAbs≤40000000000:=fun b=>by
    cases b<;>simp<;>omega
   have t:∀b:Bool,dl (if b=true then -((1:Nat):Int) else((1:Nat):Int)).natAbs≤40000000000:=fun b=>by
    have:dl 1≤1:=z3 (by decide);cases b<;>simp<;>omega
   refine Ev.bind (aJd (hsz _) (t _)) ?_;rw[aCS];refine Ev.bind s4 (Ev.bind U ?_);by_cases e:y<0
   ·rw[dT e];rw[show(y.natAbs:Int)=-y by omega,show(x.natAbs:Int)=-x by omega,Int.neg_mul]at c1;obtain⟨f,h⟩:=aBr (x:=x) (y:=y) (a:=Q+1) (b:=y.natAbs-R) j (by rw[Int.mul_add];omega) (by omega) (by omega);rw[f,h];have:(((y.natAbs:Int)-R).toNat:Int)=y.natAbs-R:=by omega
    rw[this];exact Ev.pure _
   ·rw[dF e];rw[show(y.natAbs:Int)=y by omega,show(x.natAbs:Int)=-x by omega]at c1;obtain⟨f,h⟩:=aBr (x:=x) (y:=y) (a:=-(Q+1)) (b:=y.natAbs-R) j (by rw[Int.mul_neg,Int.mul_add];omega) (by omega) (by omega);rw[f,h];have:(((y.natAbs:Int)-R).toNat:Int)=y.natAbs-R:=by omega
    rw[this,Int.neg_add];exact Ev.pure _
 ·have z:decide (x<0)=false:=dF k;simp only[z,eD];by_cases e:y<0
  ·rw[dT e];rw[show(y.natAbs:Int)=-y by omega,show(x.natAbs:Int)=x by omega,Int.neg_mul]at c1;obtain⟨f,h⟩:=aBr (x:=x) (y:=y) (a:=-Q) (b:=R) j (by rw[Int.mul_neg];omega) (by omega) (by omega);rw[f,h];exact Ev.pure _
  ·rw[dF e];rw[show(y.natAbs:Int)=y by omega,show(x.natAbs:Int)=x by omega]at c1;obtain⟨f,h⟩:=aBr (x:=x) (y:=y) (a:=Q) (b:=R) j (by omega) (by omega) (by omega);rw[f,h];exact Ev.pure _
theorem aIA(K:Nat):∀(n m k:Nat),n<k→fO K k (m:Int) (n:Int)=some ((Nat.gcd m n:Nat):Int):=by
 intro n
 induction n using Nat.strongRecOn with
 |_ n ih=>
  intro m k e;obtain⟨f,rfl,_⟩:=cF e;by_cases h:n=0
  ·subst h;simp[fO]
  ·have j:decide (0<(n:Int))=true:=dT (by omega);have q:wA (m:Int) (n:Int)=some ((m%n:Nat):Int):=by rw[oV (by omega) (by omega)];simp
   simp only[fO,j,d9,q,oB];have hlt:=Nat.mod_lt m (show 0<n by omega);rw[ih (m%n) hlt n f (by omega)];congr 2;rw[Nat.gcd_comm m n,Nat.gcd_rec n m,Nat.gcd_comm]
theorem aIR:∀(n m:Nat),dl m≤30000000000→dl n≤30000000000→∃r,sB (fun K k=>eJ K k (Z (n:Int)) (Z (m:Int))) r∧(r=.ret (Z (Nat.gcd m n:Nat))∨r=.go (Z (Nat.gcd m n:Nat))):=by
 intro n
 induction n using Nat.strongRecOn with
 |_ n ih=>
  intro m hm j;by_cases h:n=0
  ·subst h;refine⟨.go (Z m),sB.of 1 fun K k u=>?_,.inr (by simp)⟩;obtain⟨G,rfl,_⟩:=cF (n:=0) u;have e:decide (0<((Z ((0:Nat):Int)).d.length:Int))=false:=by rw[o6,show((0:Nat):Int).natAbs=0 from rfl,uH];rfl
   simp only[eJ,e,eD]
  ·have q:decide (0<((bP n).length:Int))=true:=dT (by
    show(0:Int)<dl n;have I:dl n≠0:=by rw[Ne,s5];exact h
    omega)
   have hlt:=Nat.mod_lt m (show 0<n by omega);obtain⟨r,s,t⟩:=ih (m%n) hlt n j (Nat.le_trans (aD1 _ _) hm);have z:Nat.gcd n (m%n)=Nat.gcd m n:=by rw[Nat.gcd_comm m n,Nat.gcd_rec n m,Nat.gcd_comm]
   rw[z]at t;have hdiv:=aCc (x:=(m:Int)) (y:=(n:Int)) (by omega) (by simpa using hm) (by simpa using j);rw[←Int.natCast_emod]at hdiv;by_cases hs:dl m≤2∧dl n≤2
   ·refine⟨.ret (Z (Nat.gcd m n:Nat)),sB.step ?_,.inl rfl⟩;have J:=uM (n:=m) hs.1;have b2:=uM (n:=n) hs.2;have hgl:Nat.gcd m n≤n:=Nat.gcd_le_right m (by omega);have f1:decide (((bP m).length:Int)≤2)=true:=dT (by have:(bP m).length=dl m:=rfl;omega);have f2:decide (((bP n).length:Int)≤2)=true:=dT (by have:(bP n).length=dl n:=rfl;omega);simp only[eJ,q,f1,f2,d9,aCS,yX (bT m) hs.1,yX (bT n) hs.2,dX,oB];refine sB.bind (x:=((Nat.gcd m n:Nat):Int)) (f:=fun K=>fO K K (m:Int) (n:Int)) ⟨n+1,fun K L=>aIA K n m K (by omega)⟩ ?_;simp only[nK];exact sB.bind (yV (by omega)) (sB.of 0 fun _ _ _=>rfl)
   ·refine⟨r,sB.step ?_,t⟩;simp only[eJ,q,d9,aCS];by_cases F:dl m≤2
    ·have f1:decide (((bP m).length:Int)≤2)=true:=dT (by have:(bP m).length=dl m:=rfl;omega);have f2:decide (((bP n).length:Int)≤2)=false:=dF (by have:(bP n).length=dl n:=rfl;omega);simp only[f1,f2,d9,eD];exact sB.bind hdiv s
    ·have f1:decide (((bP m).length:Int)≤2)=false:=dF (by have:(bP m).length=dl m:=rfl;omega);simp only[f1,eD];exact sB.bind hdiv s
theorem aI5{x y:Int}(h:dl x.natAbs≤30000000000)(j:dl y.natAbs≤30000000000):Ev (fun K=>oI K (Z x) (Z y)) (Z (Int.gcd x y:Nat)):=by
 unfold oI;have e:=iG false (bT x.natAbs) (by show dl _≤_;omega);have f:=iG false (bT y.natAbs) (by show dl _≤_;omega);rw[dX,l9,Int.toNat_natCast]at e f;simp only[Z_d];refine Ev.bind e (Ev.bind f ?_);obtain⟨r,k,q⟩:=aIR y.natAbs x.natAbs h j;refine Ev.bind k.ev ?_;rcases q with rfl|rfl
 ·exact Ev.pure _
 ·exact Ev.pure _
end Go.Proofs.YtnmdhmfofbfkjaaGreat
set_option linter.unusedVariables false
set_option maxRecDepth 100000
namespace Go.Proofs.YtnmdhmfofbfkjaaGreat
instance tyA32:TyA Tryz.prog 32 4:=mkA Tryz.underlying32 rfl (by kernel_rfl)
theorem tyB32:TyB Tryz.prog 32 [(0,2),(2,2)] (([pB false]++[pS cI ([]:List Int)])++([pB false]++[pS cI ([]:List Int)])):=mkB (z:=.agg #[.bool false,.slice none 0 0,.bool false,.slice none 0 0]) (by kernel_rfl) Tryz.underlying32 (by kernel_rfl) (fun M=>bC.app (bC.app (show bC M [pB false] [.bool false] from zU1) (show bC M [pS cI ([]:List Int)] [.slice none 0 0] from⟨jV cI M,zT⟩)) (bC.app (show bC M [pB false] [.bool false] from zU1) (show bC M [pS cI ([]:List Int)] [.slice none 0 0] from⟨jV cI M,zT⟩)))
instance tyF32_0:TyF Tryz.prog 32 0 0:=mkF (ft:=30) (k:=1) Tryz.underlying32 rfl rfl rfl (by kernel_rfl)
instance tyF32_1:TyF Tryz.prog 32 1 2:=mkF (ft:=30) (k:=1) Tryz.underlying32 rfl rfl rfl (by kernel_rfl)
instance tyZ32:TyZ Tryz.prog 32 (([pB false]++[pS cI ([]:List Int)])++([pB false]++[pS cI ([]:List Int)])):=mkZ (z:=.agg #[.bool false,.slice none 0 0,.bool false,.slice none 0 0]) (k:=4) (by kernel_rfl) rfl (fun M=>bC.app (bC.app (show bC M [pB false] [.bool false] from zU1) (show bC M [pS cI ([]:List Int)] [.slice none 0 0] from⟨jV cI M,zT⟩)) (bC.app (show bC M [pB false] [.bool false] from zU1) (show bC M [pS cI ([]:List Int)] [.slice none 0 0] from⟨jV cI M,zT⟩)))
def p8(K:Nat):Option Bool:=
 some true
def fP(K:Nat)(f:List Int)(a1:List Int):Nat→Int→Option (LR Bool Unit)
 |0,_=>none
 |k+1,e=>bif(decide (e<(f.length:Int))) then((cT f e).bind fun j=>(cT a1 e).bind fun v11=>bif(j != v11) then(some (.ret false)) else((aV (e+1)).bind fun h=>fP K f a1 k h)) else(some (.go ()))
def m8(K:Nat)(e:List Int)(a1:List Int):Option Bool:=
 bif((e.length:Int) != (a1.length:Int)) then(some false) else((fP K e a1 K 0).bind fun o=>match o with| .ret r=>some r| .go _=>p8 K)
theorem zK{K:Nat}{f:List Int}{a1:List Int}{r:Bool}(e:m8 K f a1=some r):Ct Tryz.prog 52 [.vc (pS cI f),.vc (pS cI a1)] (.vc (pB r)):=by
 unfold m8 at e;refine aD Tryz.func52 rfl (by kernel_rfl) Tryz.ntmps52 rfl (fun w0 M0=>?_);refine go ?_ ?_;refine aI e rfl (fun x e=>?_) (fun x e=>?_)
 ·exact cX
 refine go ?_ ?_;refine aO (bM (fun H E=>p8 K=some r∧H=[]∧E=[]) ?_ (fun j=>?_))
 ·rintro _ _ ⟨e,rfl,rfl⟩;unfold p8 at e;exact cX
 obtain⟨q,y,h⟩:=aR e;refine iO (fun k a w=>∃(s:Int),fP K f a1 k s=some q∧hs _ [] [(0,.vc (pS cI f)),(1,.vc (pS cI a1)),(12,vI (f.length:Int)),(13,vI s)] a w) K (fun a w ⟨_,e,_⟩=>by cases e) (fun k a w ⟨s,e,hh⟩=>iR ?_ hh) (fun a w hh=>⟨0,y,kK [] hh⟩);rw[fP.eq_2]at e;refine go ?_ ?_;refine aI e rfl (fun z e=>?_) (fun z e=>?_)
 ·refine go ?_ ?_;refine aO ?_;obtain⟨L,F,v11,G,e⟩:=sU e;refine go ?_ ?_;refine dr [0,0,3,7,0,0,48,112,255] 9 0 ?_ (fun I O=>?_);refine aJ (aC (aI e rfl (fun t e=>?_) (fun t e=>?_)))
  ·exact cX
  obtain⟨u,J,e⟩:=aR e;refine go ?_ ?_;exact aN (fun a w hh=>⟨u,e,kK [] hh⟩)
 refine cO ?_;obtain rfl:=f8 e;exact qG j ⟨h,rfl,rfl⟩ []
def rG(K:Nat)(e:aF)(a1:aF):Option Bool:=
 bif(e.neg==a1.neg) then((m8 K e.d a1.d).bind fun v4=>some v4) else(some false)
theorem zY{K:Nat}{h:aF}{a1:aF}{r:Bool}(f:rG K h a1=some r):Ct Tryz.prog 51 [.va (aF.e h),.va (aF.e a1)] (.vc (pB r)):=by
 unfold rG at f;refine aD Tryz.func51 rfl (by kernel_rfl) Tryz.ntmps51 rfl (fun w0 M0=>?_);refine aG (aH (dC rfl rfl zT (fun k=>?_)));refine dC rfl rfl zT (fun b2=>?_);refine go ?_ ?_;refine aE (aJe rfl Tryz.underlying4) zU2 ?_;refine cK ?_;refine jW f (fun j f=>?_) (fun j f=>?_)
 ·obtain⟨v4,q,f⟩:=bQ f zK;exact cX
 exact cX
abbrev aFX:Nat:=16
def wY(K:Nat)(e:d8)(a1:d8):Option Bool:=
 (rG K e.p a1.p).bind fun f=>bif f then((rG K e.q a1.q).bind fun v6=>some v6) else(some false)
theorem aE9{K:Nat}{h:d8}{a1:d8}{r:Bool}(f:wY K h a1=some r):Ct Tryz.prog 16 [.va (d8.e h),.va (d8.e a1)] (.vc (pB r)):=by
 unfold wY at f;refine aD Tryz.func16 rfl (by kernel_rfl) Tryz.ntmps16 rfl (fun w0 M0=>?_);refine aG (aH (dC rfl rfl zT (fun t=>?_)));refine dC rfl rfl zT (fun b2=>?_);refine go ?_ ?_;refine aE (aK (.inr rfl)) ⟨k_F _,zT⟩ ?_;obtain⟨u,j,f⟩:=bQ f zY;refine go ?_ ?_;refine aE (aAx (cs:=[]) (pre:=[.va (aF.e h.p),.va (aF.e a1.p)]) rfl j rfl) ⟨rfl,rfl,rfl,zT⟩ ?_;refine cK ?_;refine jW f (fun k f=>?_) (fun k f=>?_)
 ·obtain⟨v6,s,f⟩:=bQ f zY;refine go ?_ ?_;refine aZ (aAx (cs:=[]) (pre:=[.va (aF.e h.q),.va (aF.e a1.q)]) rfl s rfl) ⟨rfl,rfl,rfl,zT⟩ ?_;exact cX
 exact cX
abbrev aFF:Nat:=43
def tA(e:d8):Option Int:=
 (qO e.p).bind fun v2=>some v2
theorem yI{h:d8}{r:Int}(f:tA h=some r):Ct Tryz.prog 43 [.va (d8.e h)] (vI r):=by
 unfold tA at f;refine aD Tryz.func43 rfl (by kernel_rfl) Tryz.ntmps43 rfl (fun w0 M0=>?_);refine aG (aH (dC rfl rfl zT (fun j=>?_)));obtain⟨v2,k,f⟩:=bQ f aBB;exact cX
def y5:Option aF:=
 (kP 1).bind fun v2=>some v2
theorem aFK{r:aF}(f:y5=some r):Ct Tryz.prog 112 [] (.va (aF.e r)):=by
 unfold y5 at f;refine aD Tryz.func112 rfl (by kernel_rfl) Tryz.ntmps112 rfl (fun w0 M0=>?_);refine aG (aH (aM rfl tyZ30 (fun h=>?_)));obtain⟨v2,j,f⟩:=bQ f oM;exact cX
def eA(e:d8):Option aF:=
 bif((e.q.d.length:Int)==0) then((y5).bind fun v4=>some v4) else(some e.q)
theorem jZ{h:d8}{r:aF}(f:eA h=some r):Ct Tryz.prog 61 [.va (d8.e h)] (.va (aF.e r)):=by
 unfold eA at f;refine aD Tryz.func61 rfl (by kernel_rfl) Tryz.ntmps61 rfl (fun w0 M0=>?_);refine aG (aH (dC rfl rfl zT (fun k=>?_)));refine aM rfl tyZ30 (fun b2=>?_);refine go ?_ ?_;refine aI f rfl (fun j f=>?_) (fun j f=>?_)
 ·obtain⟨v4,q,f⟩:=bQ f aFK;exact cX
 exact cX
abbrev aCQ:Nat:=18
def tF(K:Nat)(f:d8)(a1:d8):Option Int:=
 (tA f).bind fun e=>(tA a1).bind fun h=>bif(e != h) then((kP e).bind fun v10=>(kP h).bind fun j=>(kN K v10 j).bind fun k=>some k) else(bif(e==0) then((kP e).bind fun q=>(kP h).bind fun s=>(kN K q s).bind fun t=>some t) else((eA a1).bind fun u=>(bL K f.p u).bind fun x=>(eA f).bind fun y=>(bL K a1.p y).bind fun z=>(kN K x z).bind fun F=>some F))
theorem aB4{K:Nat}{j:d8}{a1:d8}{r:Int}(f:tF K j a1=some r):Ct Tryz.prog 18 [.va (d8.e j),.va (d8.e a1)] (vI r):=by
 unfold tF at f;refine aD Tryz.func18 rfl (by kernel_rfl) Tryz.ntmps18 rfl (fun w0 M0=>?_);refine aG (aH (dC rfl rfl zT (fun b1=>?_)));refine dC rfl rfl zT (fun b2=>?_);obtain⟨v5,h6,f⟩:=bQ f yI;obtain⟨v7,h8,f⟩:=bQ f yI;refine go ?_ ?_;refine dr [0,1,0,7,15,31] 6 0 ?_ (fun q G3=>?_);refine go ?_ ?_;refine jW f (fun s f=>?_) (fun s f=>?_)
 ·refine go ?_ ?_;refine rK rfl ?_;obtain⟨v10,t,f⟩:=bQ f oM;obtain⟨u,x,f⟩:=bQ f oM;obtain⟨y,z,f⟩:=bQ f r4;exact cX
 refine go ?_ ?_;refine aI f rfl (fun h f=>?_) (fun h f=>?_)
 ·obtain⟨F,G,f⟩:=bQ f oM;obtain⟨I,J,f⟩:=bQ f oM;obtain⟨L,O,f⟩:=bQ f r4;exact cX
 obtain⟨U,V,f⟩:=bQ f jZ;obtain⟨v27,h28,f⟩:=bQ f fZ;obtain⟨v29,h30,f⟩:=bQ f jZ;obtain⟨v31,h32,f⟩:=bQ f fZ;obtain⟨v33,h34,f⟩:=bQ f r4;refine go ?_ ?_;refine dr [0,1,0,4,15,0,32,0,159,511,1023,2047] 12 0 ?_ (fun k G23=>?_);refine aJ (aC ?_);exact cX
abbrev aHC:Nat:=19
def wJ(e:d8):Option d8:=
 (oK e.p).bind fun f=>some (⟨f,e.q⟩:d8)
theorem aBW{f:d8}{r:d8}(h:wJ f=some r):Ct Tryz.prog 19 [.va (d8.e f)] (.va (d8.e r)):=by
 unfold wJ at h;refine aD Tryz.func19 rfl (by kernel_rfl) Tryz.ntmps19 rfl (fun w0 M0=>?_);refine aG (aH (dC rfl rfl zT (fun s=>?_)));refine aM rfl tyZ32 (fun b2=>?_);obtain⟨j,t,h⟩:=bQ h u7;refine go ?_ ?_;refine gJ [0,1,3,0,8,31,63] 6 1 [.v (.vc (pP (some s) 0)),.v (.va (aF.e f.p)),.v (.va (aF.e j)),.v (.vc (pP (some s) 2)),.v (.va (aF.e f.q)),.v (.va ((aF.e j)++(aF.e f.q)))] aS ⟨d0 (eZ (off:=0) (k:=0) rfl tyF32_0) zU1,d0 (iN 1 2 rfl rfl rfl rfl (.agg tyA30)) zU1,d0 (aT rfl t rfl) zU1,d0 (eZ (off:=0) (k:=2) rfl tyF32_1) zU1,d0 (iN 1 2 rfl rfl rfl rfl (.agg tyA30)) zU1,d0 (gP (is:=[0,1]) (xs:=[.tmp 5,.tmp 7]) (ps:=[.va (aF.e j),.va (aF.e f.q)]) rfl tyB32 rfl rfl ⟨zT,zT,zT⟩ rfl) zU2,zT⟩ (fun u x=>?_);exact cX
def mC(e:aF):Option Bool:=
 bif e.neg then(some false) else(bif((e.d.length:Int) != 1) then(some false) else((cT e.d 0).bind fun v4=>some (v4==1)))
theorem u5{h:aF}{r:Bool}(f:mC h=some r):Ct Tryz.prog 132 [.va (aF.e h)] (.vc (pB r)):=by
 unfold mC at f;refine aD Tryz.func132 rfl (by kernel_rfl) Tryz.ntmps132 rfl (fun w0 M0=>?_);refine aG (aH (dC rfl rfl zT (fun q=>?_)));refine go ?_ ?_;refine jW f (fun j f=>?_) (fun j f=>?_)
 ·refine go ?_ ?_;refine rK rfl ?_;exact cX
 refine go ?_ ?_;refine aI f rfl (fun k f=>?_) (fun k f=>?_)
 ·exact cX
 obtain⟨v4,s,f⟩:=aR f;exact cX
def jY(K:Nat)(h:aF)(a1:aF):Option d8:=
 bif((a1.d.length:Int)==0) then(some (⟨(⟨false,([]:List Int)⟩:aF),(⟨false,([]:List Int)⟩:aF)⟩:d8)) else(bif((h.d.length:Int)==0) then(some (⟨(⟨false,([]:List Int)⟩:aF),(⟨false,([]:List Int)⟩:aF)⟩:d8)) else((oI K h a1).bind fun v6=>(jI K h v6).bind fun j=>(jI K a1 v6).bind fun e=>bif e.1.neg then((mI K j.1).bind fun f=>(mI K e.1).bind fun v20=>(mC v20).bind fun k=>bif k then(some (⟨f,(⟨false,([]:List Int)⟩:aF)⟩:d8)) else(some (⟨f,v20⟩:d8))) else((mC e.1).bind fun q=>bif q then(some (⟨j.1,(⟨false,([]:List Int)⟩:aF)⟩:d8)) else(some (⟨j.1,e.1⟩:d8)))))
theorem zI{K:Nat}{t:aF}{a1:aF}{r:d8}(f:jY K t a1=some r):Ct Tryz.prog 88 [.va (aF.e t),.va (aF.e a1)] (.va (d8.e r)):=by
 unfold jY at f;refine aD Tryz.func88 rfl (by kernel_rfl) Tryz.ntmps88 rfl (fun w0 M0=>?_);refine aG (aH (dC rfl rfl zT (fun b1=>?_)));refine dC rfl rfl zT (fun b2=>?_);refine aM rfl tyZ32 (fun b3=>?_);refine go ?_ ?_;refine jW f (fun x f=>?_) (fun x f=>?_)
 ·refine go ?_ ?_;refine rK rfl ?_;refine aG (aH (aE (gP (is:=[]) (xs:=[]) (ps:=[]) rfl tyB32 rfl rfl zT rfl) zT ?_));exact cX
 refine go ?_ ?_;refine aI f rfl (fun y f=>?_) (fun y f=>?_)
 ·refine aG (aH (aE (gP (is:=[]) (xs:=[]) (ps:=[]) rfl tyB32 rfl rfl zT rfl) zT ?_));exact cX
 obtain⟨v6,h7,f⟩:=bQ f aAm;refine go ?_ ?_;refine aM rfl tyZ30 (fun b8=>?_);obtain⟨u,z,f⟩:=bQ f pL;refine go ?_ ?_;refine aM rfl tyZ30 (fun F=>?_);refine aM rfl tyZ30 (fun G=>?_);obtain⟨j,I,f⟩:=bQ f pL;refine go ?_ ?_;refine aM rfl tyZ30 (fun J=>?_);refine aM rfl tyZ30 (fun L=>?_);refine go ?_ ?_;refine aI f rfl (fun k f=>?_) (fun k f=>?_)
 ·obtain⟨h,O,f⟩:=bQ f vA;obtain⟨v20,U,f⟩:=bQ f vA;obtain⟨V,h23,f⟩:=bQ f u5;refine go ?_ ?_;refine aI f rfl (fun q f=>?_) (fun q f=>?_)
  ·refine go ?_ ?_;refine aE (gP (is:=[0]) (xs:=[.tmp 44]) (ps:=[.va (aF.e h)]) rfl tyB32 rfl rfl ⟨zT,zT⟩ rfl) zU1 ?_;exact cX
  refine go ?_ ?_;refine aE (gP (is:=[0,1]) (xs:=[.tmp 46,.tmp 47]) (ps:=[.va (aF.e h),.va (aF.e v20)]) rfl tyB32 rfl rfl ⟨zT,zT,zT⟩ rfl) zU2 ?_;exact cX
 obtain⟨v25,h26,f⟩:=bQ f u5;refine go ?_ ?_;refine aI f rfl (fun s f=>?_) (fun s f=>?_)
 ·refine go ?_ ?_;refine aE (gP (is:=[0]) (xs:=[.tmp 44]) (ps:=[.va (aF.e u.1)]) rfl tyB32 rfl rfl ⟨zT,zT⟩ rfl) zU1 ?_;exact cX
 refine go ?_ ?_;refine aE (gP (is:=[0,1]) (xs:=[.tmp 46,.tmp 47]) (ps:=[.va (aF.e u.1),.va (aF.e j.1)]) rfl tyB32 rfl rfl ⟨zT,zT,zT⟩ rfl) zU2 ?_;exact cX
abbrev aBf:Nat:=33
def rC(K:Nat)(e:Int)(a1:Int):Option d8:=
 (gR K e).bind fun v2=>(gR K a1).bind fun v4=>(jY K v2 v4).bind fun v6=>some v6
theorem aAZ{K:Nat}{h:Int}{a1:Int}{r:d8}(f:rC K h a1=some r):Ct Tryz.prog 33 [vI h,vI a1] (.va (d8.e r)):=by
 unfold rC at f;refine aD Tryz.func33 rfl (by kernel_rfl) Tryz.ntmps33 rfl (fun w0 M0=>?_);refine aG (aH (aM rfl tyZ32 (fun j=>?_)));obtain⟨v2,k,f⟩:=bQ f mH;obtain⟨v4,q,f⟩:=bQ f mH;obtain⟨v6,s,f⟩:=bQ f zI;exact cX
def r5(e:aF):Option Bool:=
 bif(!e.neg) then(bif((e.d.length:Int)==1) then((cT e.d 0).bind fun v4=>some (v4==1)) else(some false)) else(some false)
theorem xV{h:aF}{r:Bool}(f:r5 h=some r):Ct Tryz.prog 135 [.va (aF.e h)] (.vc (pB r)):=by
 unfold r5 at f;refine aD Tryz.func135 rfl (by kernel_rfl) Tryz.ntmps135 rfl (fun w0 M0=>?_);refine aG (aH (dC rfl rfl zT (fun q=>?_)));refine go ?_ ?_;refine jW f (fun j f=>?_) (fun j f=>?_)
 ·refine go ?_ ?_;refine jW f (fun k f=>?_) (fun k f=>?_)
  ·obtain⟨v4,s,f⟩:=aR f;exact cX
  exact cX
 exact cX
def lR(e:aF)(a1:aF):Option d8:=
 bif a1.neg then((oK e).bind fun h=>(oK a1).bind fun j=>(r5 j).bind fun v11=>bif v11 then(some (⟨h,(⟨false,([]:List Int)⟩:aF)⟩:d8)) else(some (⟨h,j⟩:d8))) else((r5 a1).bind fun f=>bif f then(some (⟨e,(⟨false,([]:List Int)⟩:aF)⟩:d8)) else(some (⟨e,a1⟩:d8)))
theorem rT{h:aF}{a1:aF}{r:d8}(f:lR h a1=some r):Ct Tryz.prog 91 [.va (aF.e h),.va (aF.e a1)] (.va (d8.e r)):=by
 unfold lR at f;refine aD Tryz.func91 rfl (by kernel_rfl) Tryz.ntmps91 rfl (fun w0 M0=>?_);refine aG (aH (dC rfl rfl zT (fun G=>?_)));refine dC rfl rfl zT (fun b2=>?_);refine aM rfl tyZ32 (fun I=>?_);refine go ?_ ?_;refine aI f rfl (fun s f=>?_) (fun s f=>?_)
 ·obtain⟨q,J,f⟩:=bQ f u7;obtain⟨t,u,f⟩:=bQ f u7;refine dr [0,1,0,7,15,31] 4 2 ?_ (fun x K=>?_);obtain⟨v11,y,f⟩:=bQ f xV;refine go ?_ ?_;refine aI f rfl (fun j f=>?_) (fun j f=>?_)
  ·refine go ?_ ?_;refine aE (gP (is:=[0]) (xs:=[.tmp 13]) (ps:=[.va (aF.e q)]) rfl tyB32 rfl rfl ⟨zT,zT⟩ rfl) zU1 ?_;exact cX
  refine go ?_ ?_;refine aE (gP (is:=[0,1]) (xs:=[.tmp 15,.tmp 16]) (ps:=[.va (aF.e q),.va (aF.e t)]) rfl tyB32 rfl rfl ⟨zT,zT,zT⟩ rfl) zU2 ?_;exact cX
 obtain⟨z,F,f⟩:=bQ f xV;refine go ?_ ?_;refine aI f rfl (fun k f=>?_) (fun k f=>?_)
 ·refine go ?_ ?_;refine aE (gP (is:=[0]) (xs:=[.tmp 13]) (ps:=[.va (aF.e h)]) rfl tyB32 rfl rfl ⟨zT,zT⟩ rfl) zU1 ?_;exact cX
 refine go ?_ ?_;refine aE (gP (is:=[0,1]) (xs:=[.tmp 15,.tmp 16]) (ps:=[.va (aF.e h),.va (aF.e a1)]) rfl tyB32 rfl rfl ⟨zT,zT,zT⟩ rfl) zU2 ?_;exact cX
def iK(K:Nat)(e:aF)(a1:aF):Option d8:=
 bif((a1.d.length:Int)==0) then(some (⟨(⟨false,([]:List Int)⟩:aF),(⟨false,([]:List Int)⟩:aF)⟩:d8)) else(bif((e.d.length:Int)==0) then(some (⟨(⟨false,([]:List Int)⟩:aF),(⟨false,([]:List Int)⟩:aF)⟩:d8)) else((rN K e a1).bind fun v6=>(r5 v6).bind fun q=>bif(!q) then((pX K e v6).bind fun f=>(pX K a1 v6).bind fun h=>(lR f.1 h.1).bind fun j=>some j) else((lR e a1).bind fun k=>some k)))
theorem qS{K:Nat}{j:aF}{a1:aF}{r:d8}(f:iK K j a1=some r):Ct Tryz.prog 90 [.va (aF.e j),.va (aF.e a1)] (.va (d8.e r)):=by
 unfold iK at f;refine aD Tryz.func90 rfl (by kernel_rfl) Tryz.ntmps90 rfl (fun w0 M0=>?_);refine aG (aH (dC rfl rfl zT (fun J=>?_)));refine dC rfl rfl zT (fun b2=>?_);refine aM rfl tyZ32 (fun L=>?_);refine go ?_ ?_;refine jW f (fun k f=>?_) (fun k f=>?_)
 ·refine go ?_ ?_;refine rK rfl ?_;refine aG (aH (aE (gP (is:=[]) (xs:=[]) (ps:=[]) rfl tyB32 rfl rfl zT rfl) zT ?_));exact cX
 refine go ?_ ?_;refine aI f rfl (fun q f=>?_) (fun q f=>?_)
 ·refine aG (aH (aE (gP (is:=[]) (xs:=[]) (ps:=[]) rfl tyB32 rfl rfl zT rfl) zT ?_));exact cX
 obtain⟨v6,O,f⟩:=bQ f aCH;refine go ?_ ?_;refine aM rfl tyZ30 (fun U=>?_);obtain⟨V,s,f⟩:=bQ f xV;refine go ?_ ?_;refine aI f rfl (fun h f=>?_) (fun h f=>?_)
 ·obtain⟨t,u,f⟩:=bQ f yE;obtain⟨x,y,f⟩:=bQ f yE;obtain⟨z,F,f⟩:=bQ f rT;exact cX
 obtain⟨G,I,f⟩:=bQ f rT;exact cX
abbrev aHd:Nat:=34
def wG(K:Nat)(e:d8)(a1:d8):Option d8:=
 bif((e.p.d.length:Int)==0) then(some (⟨(⟨false,([]:List Int)⟩:aF),(⟨false,([]:List Int)⟩:aF)⟩:d8)) else(bif((a1.p.d.length:Int)==0) then(some (⟨(⟨false,([]:List Int)⟩:aF),(⟨false,([]:List Int)⟩:aF)⟩:d8)) else(bif((e.q.d.length:Int)==0) then(bif((a1.q.d.length:Int)==0) then((bL K e.p a1.p).bind fun V=>some (⟨V,(⟨false,([]:List Int)⟩:aF)⟩:d8)) else((eA a1).bind fun s=>(iK K e.p s).bind fun f=>(eA e).bind fun t=>(iK K a1.p t).bind fun h=>(bL K f.p h.p).bind fun u=>(eA f).bind fun x=>(eA h).bind fun y=>(bL K x y).bind fun z=>(lR u z).bind fun v30=>some v30)) else((eA a1).bind fun F=>(iK K e.p F).bind fun j=>(eA e).bind fun G=>(iK K a1.p G).bind fun k=>(bL K j.p k.p).bind fun I=>(eA j).bind fun J=>(eA k).bind fun L=>(bL K J L).bind fun O=>(lR I O).bind fun U=>some U)))
theorem aBS{K:Nat}{h:d8}{a1:d8}{r:d8}(f:wG K h a1=some r):Ct Tryz.prog 34 [.va (d8.e h),.va (d8.e a1)] (.va (d8.e r)):=by
 unfold wG at f;refine aD Tryz.func34 rfl (by kernel_rfl) Tryz.ntmps34 rfl (fun w0 M0=>?_);refine aG (aH (dC rfl rfl zT (fun b1=>?_)));refine dC rfl rfl zT (fun b2=>?_);refine aM rfl tyZ32 (fun b3=>?_);refine go ?_ ?_;refine jW f (fun t f=>?_) (fun t f=>?_)
 ·refine go ?_ ?_;refine rK rfl ?_;refine aG (aH (aE (gP (is:=[]) (xs:=[]) (ps:=[]) rfl tyB32 rfl rfl zT rfl) zT ?_));exact cX
 refine go ?_ ?_;refine aI f rfl (fun u f=>?_) (fun u f=>?_)
 ·refine aG (aH (aE (gP (is:=[]) (xs:=[]) (ps:=[]) rfl tyB32 rfl rfl zT rfl) zT ?_));exact cX
 refine go ?_ ?_;refine jW f (fun x f=>?_) (fun x f=>?_)
 ·refine go ?_ ?_;refine aI f rfl (fun y f=>?_) (fun y f=>?_)
  ·obtain⟨z,h9,f⟩:=bQ f fZ;refine go ?_ ?_;refine aE (gP (is:=[0]) (xs:=[.tmp 36]) (ps:=[.va (aF.e z)]) rfl tyB32 rfl rfl ⟨zT,zT⟩ rfl) zU1 ?_;exact cX
  obtain⟨F,G,f⟩:=bQ f jZ;obtain⟨I,J,f⟩:=bQ f qS;obtain⟨L,O,f⟩:=bQ f jZ;obtain⟨U,V,f⟩:=bQ f qS;refine go ?_ ?_;refine dr [0,1,0,4,15,0,32,0,159,511,0,0,4095,8191] 12 2 ?_ (fun j G10=>?_);obtain⟨v22,h23,f⟩:=bQ f fZ;obtain⟨v24,h25,f⟩:=bQ f jZ;obtain⟨v26,h27,f⟩:=bQ f jZ;obtain⟨v28,h29,f⟩:=bQ f fZ;obtain⟨v30,h31,f⟩:=bQ f rT;refine go ?_ ?_;refine dr [0,1,0,4,15,0,63,0,255,511,1023,2047] 11 1 ?_ (fun k G20=>?_);exact cX
 refine go ?_ ?_;refine r9 rfl ?_;obtain⟨v34,h35,f⟩:=bQ f jZ;obtain⟨v36,h37,f⟩:=bQ f qS;obtain⟨v38,h39,f⟩:=bQ f jZ;obtain⟨v40,h41,f⟩:=bQ f qS;refine go ?_ ?_;refine dr [0,1,0,4,15,0,32,0,159,511,0,0,4095,8191] 12 2 ?_ (fun q G32=>?_);obtain⟨v44,h45,f⟩:=bQ f fZ;obtain⟨v46,h47,f⟩:=bQ f jZ;obtain⟨v48,h49,f⟩:=bQ f jZ;obtain⟨v50,h51,f⟩:=bQ f fZ;obtain⟨v52,h53,f⟩:=bQ f rT;refine go ?_ ?_;refine dr [0,1,0,4,15,0,63,0,255,511,1023,2047] 11 1 ?_ (fun s G42=>?_);exact cX
abbrev aG9:Nat:=35
def wK(K:Nat)(e:d8)(a1:d8):Option d8:=
 bif((e.q.d.length:Int)==0) then(bif((a1.q.d.length:Int)==0) then((lS K e.p a1.p).bind fun v6=>some (⟨v6,(⟨false,([]:List Int)⟩:aF)⟩:d8)) else(bif((e.p.d.length:Int)==0) then(some a1) else(bif((a1.p.d.length:Int)==0) then(some e) else((eA e).bind fun f=>(eA a1).bind fun h=>(bL K e.p h).bind fun s=>(bL K a1.p f).bind fun v20=>(lS K s v20).bind fun t=>(bL K f h).bind fun u=>(iK K t u).bind fun x=>some x)))) else(bif((e.p.d.length:Int)==0) then(some a1) else(bif((a1.p.d.length:Int)==0) then(some e) else((eA e).bind fun j=>(eA a1).bind fun k=>(bL K e.p k).bind fun y=>(bL K a1.p j).bind fun z=>(lS K y z).bind fun F=>(bL K j k).bind fun G=>(iK K F G).bind fun I=>some I)))
theorem aCD{K:Nat}{k:d8}{a1:d8}{r:d8}(f:wK K k a1=some r):Ct Tryz.prog 35 [.va (d8.e k),.va (d8.e a1)] (.va (d8.e r)):=by
 unfold wK at f;refine aD Tryz.func35 rfl (by kernel_rfl) Tryz.ntmps35 rfl (fun w0 M0=>?_);refine aG (aH (dC rfl rfl zT (fun b1=>?_)));refine dC rfl rfl zT (fun b2=>?_);refine aM rfl tyZ32 (fun b3=>?_);refine go ?_ ?_;refine aO (go ?_ ?_);refine jW f (fun x f=>?_) (fun x f=>?_)
 ·refine go ?_ ?_;refine aI f rfl (fun y f=>?_) (fun y f=>?_)
  ·obtain⟨v6,h7,f⟩:=bQ f uR;refine go ?_ ?_;refine aE (gP (is:=[0]) (xs:=[.tmp 24]) (ps:=[.va (aF.e v6)]) rfl tyB32 rfl rfl ⟨zT,zT⟩ rfl) zU1 ?_;exact cX
  refine go ?_ ?_;refine aI f rfl (fun z f=>?_) (fun z f=>?_)
  ·exact cX
  refine go ?_ ?_;refine aI f rfl (fun F f=>?_) (fun F f=>?_)
  ·exact cX
  obtain⟨G,I,f⟩:=bQ f jZ;obtain⟨J,L,f⟩:=bQ f jZ;refine go ?_ ?_;refine dr [0,1,0,7,0,0,63,127] 6 2 ?_ (fun q O=>?_);obtain⟨U,V,f⟩:=bQ f fZ;obtain⟨v20,h21,f⟩:=bQ f fZ;obtain⟨v22,h23,f⟩:=bQ f uR;obtain⟨v24,h25,f⟩:=bQ f fZ;obtain⟨v26,h27,f⟩:=bQ f qS;refine go ?_ ?_;refine dr [0,1,0,7,0,16,0,127,255,0,0,2047,4095,8191] 13 1 ?_ (fun s G16=>?_);exact cX
 refine go ?_ ?_;refine r9 rfl ?_;refine go ?_ ?_;refine aI f rfl (fun h f=>?_) (fun h f=>?_)
 ·exact cX
 refine go ?_ ?_;refine aI f rfl (fun j f=>?_) (fun j f=>?_)
 ·exact cX
 obtain⟨v32,h33,f⟩:=bQ f jZ;obtain⟨v34,h35,f⟩:=bQ f jZ;refine go ?_ ?_;refine dr [0,1,0,7,0,0,63,127] 6 2 ?_ (fun t G30=>?_);obtain⟨v38,h39,f⟩:=bQ f fZ;obtain⟨v40,h41,f⟩:=bQ f fZ;obtain⟨v42,h43,f⟩:=bQ f uR;obtain⟨v44,h45,f⟩:=bQ f fZ;obtain⟨v46,h47,f⟩:=bQ f qS;refine go ?_ ?_;refine dr [0,1,0,7,0,16,0,127,255,0,0,2047,4095,8191] 13 1 ?_ (fun u G36=>?_);exact cX
abbrev aIM:Nat:=41
def aA5(K:Nat)(e:Int)(a1:Int):Option d8:=
 (kP e).bind fun v2=>(kP a1).bind fun v4=>(iK K v2 v4).bind fun v6=>some v6
theorem aHA{K:Nat}{h:Int}{a1:Int}{r:d8}(f:aA5 K h a1=some r):Ct Tryz.prog 41 [vI h,vI a1] (.va (d8.e r)):=by
 unfold aA5 at f;refine aD Tryz.func41 rfl (by kernel_rfl) Tryz.ntmps41 rfl (fun w0 M0=>?_);refine aG (aH (aM rfl tyZ32 (fun j=>?_)));obtain⟨v2,k,f⟩:=bQ f oM;obtain⟨v4,q,f⟩:=bQ f oM;obtain⟨v6,s,f⟩:=bQ f qS;exact cX
abbrev aHq:Nat:=104
def yW(K:Nat)(e:d8)(a1:d8):Option d8:=
 (wJ a1).bind fun v6=>(wK K e v6).bind fun f=>some f
theorem aF3{K:Nat}{h:d8}{a1:d8}{r:d8}(f:yW K h a1=some r):Ct Tryz.prog 104 [.va (d8.e h),.va (d8.e a1)] (.va (d8.e r)):=by
 unfold yW at f;refine aD Tryz.func104 rfl (by kernel_rfl) Tryz.ntmps104 rfl (fun w0 M0=>?_);refine aG (aH (dC rfl rfl zT (fun k=>?_)));refine dC rfl rfl zT (fun b2=>?_);refine aM rfl tyZ32 (fun q=>?_);obtain⟨v6,s,f⟩:=bQ f aBW;obtain⟨t,u,f⟩:=bQ f aCD;refine go ?_ ?_;refine dr [0,0,2,7,15] 4 1 ?_ (fun j x=>?_);exact cX
abbrev aHy:Nat:=141
def y4(K:Nat)(e:d8)(a1:d8):Option d8:=
 bif((a1.p.d.length:Int)==0) then(some (⟨(⟨false,([]:List Int)⟩:aF),(⟨false,([]:List Int)⟩:aF)⟩:d8)) else((eA a1).bind fun f=>(lR f a1.p).bind fun h=>(wG K e h).bind fun v11=>some v11)
theorem aFD{K:Nat}{h:d8}{a1:d8}{r:d8}(f:y4 K h a1=some r):Ct Tryz.prog 141 [.va (d8.e h),.va (d8.e a1)] (.va (d8.e r)):=by
 unfold y4 at f;refine aD Tryz.func141 rfl (by kernel_rfl) Tryz.ntmps141 rfl (fun w0 M0=>?_);refine aG (aH (dC rfl rfl zT (fun t=>?_)));refine dC rfl rfl zT (fun b2=>?_);refine aM rfl tyZ32 (fun u=>?_);refine go ?_ ?_;refine aI f rfl (fun j f=>?_) (fun j f=>?_)
 ·refine aG (aH (aE (gP (is:=[]) (xs:=[]) (ps:=[]) rfl tyB32 rfl rfl zT rfl) zT ?_));exact cX
 obtain⟨x,y,f⟩:=bQ f jZ;obtain⟨z,k,f⟩:=bQ f rT;obtain⟨v11,q,f⟩:=bQ f aBS;refine go ?_ ?_;refine dr [0,0,2,0,8,30,63,127] 7 1 ?_ (fun s F=>?_);exact cX
end Go.Proofs.YtnmdhmfofbfkjaaGreat
set_option linter.unusedVariables false
set_option maxRecDepth 100000
namespace Go.Proofs.YtnmdhmfofbfkjaaGreat
open Rat
theorem Z0:Z 0=(⟨false,[]⟩:aF):=by rw[show(0:Int)=((0:Nat):Int) from rfl,←l9];rfl
theorem aGj{x y:Int}(h:Z x=Z y):x=y:=by
 have e:decide (x<0)=decide (y<0):=congrArg aF.neg h;have f:bP x.natAbs=bP y.natAbs:=congrArg aF.d h;have j:(x.natAbs:Int)=y.natAbs:=by rw[←dX,←dX,f]
 have k:(x<0)↔(y<0):=by simpa using e
 omega
theorem aCg{x:Int}:(((Z x).d.length:Int)==0)=decide (x=0):=by
 rw[o6];by_cases h:x=0
 ·rw[dT h];subst h;rw[show Int.natAbs 0=0 from rfl,uH];rfl
 ·have:dl x.natAbs≠0:=by rw[Ne,s5];omega
  rw[dF h,qF (by omega)]
theorem dl1:dl 1=1:=by
 unfold dl;rw[aF6 (by decide) (by decide)];rfl
theorem aCe(x:Int):r5 (Z x)=some (decide (x=1)):=by
 unfold r5;rw[sW];by_cases h:x<0
 ·rw[dT h,dF (p:=x=1) (by omega)];simp
 ·rw[dF h];simp only[Bool.not_false,d9,Z_d];by_cases f:(bP x.natAbs).length=1
  ·obtain⟨a1,a2⟩:=xS f;have e:=cV (xs:=bP x.natAbs) (i:=0) (by omega);rw[a1]at e;simp only[Int.natCast_zero]at e;rw[qT (by omega),d9,e,oB];by_cases j:x=1
   ·rw[dT j,qT (by omega)]
   ·rw[dF j,qF (by omega)]
  ·rw[qF (by omega),eD,dF];intro e;subst e;exact f dl1
theorem aEJ(x:Int):mC (Z x)=some (decide (x=1)):=by
 unfold mC;rw[sW];by_cases h:x<0
 ·rw[dT h,dF (p:=x=1) (by omega)];rfl
 ·rw[dF h];simp only[eD,Z_d];by_cases f:(bP x.natAbs).length=1
  ·obtain⟨a1,a2⟩:=xS f;have e:=cV (xs:=bP x.natAbs) (i:=0) (by omega);rw[a1]at e;simp only[Int.natCast_zero]at e;rw[nF (by omega),eD,e,oB];by_cases j:x=1
   ·rw[dT j,qT (by omega)]
   ·rw[dF j,qF (by omega)]
  ·rw[nT (by omega),d9,dF];intro e;subst e;exact f dl1
theorem aL9{p q:Int}(e:0<q)(f:Int.gcd p q=1):(p/. q).num=p∧(p/. q).den=q.natAbs:=by
 rw[Rat.num_divInt,Rat.den_divInt,Int.gcd_comm,f,if_neg (by omega),Int.sign_eq_one_of_pos e];simp
theorem aCI{p q:Int}(e:0<q)(f:Int.gcd p q=1):Qr (p/. q)=⟨Z p,if q=1 then⟨false,[]⟩ else Z q⟩:=by
 obtain⟨j,k⟩:=aL9 e f;rw[aCB,j,k];by_cases h:q=1
 ·rw[if_pos h,if_pos (by omega)]
 ·rw[if_neg h,if_neg (by omega),show(q.natAbs:Int)=q by omega]
theorem wQ{p q:Int}(j:q≠0)(f:Int.gcd p q=1):lR (Z p) (Z q)=some (Qr (p/. q)):=by
 unfold lR;rw[sW];by_cases h:q<0
 ·rw[dT h];simp only[d9,aGS,oB,aCe];rw[←Rat.neg_divInt_neg,aCI (by omega) (by simpa using f)];by_cases e:-q=1
  ·rw[dT e,if_pos e];rfl
  ·rw[dF e,if_neg e];rfl
 ·rw[dF h];simp only[eD,aCe,oB];rw[aCI (by omega) f];by_cases e:q=1
  ·rw[dT e,if_pos e];rfl
  ·rw[dF e,if_neg e];rfl
theorem aC1{p q:Int}(j:q≠0):∃a b:Int,∃g:Nat,Int.gcd p q=g∧0<g∧p=a*g∧q=b*g∧Int.gcd a b=1∧b≠0∧p/(g:Int)=a∧q/(g:Int)=b:=by
 have k:0<Int.gcd p q:=Int.gcd_pos_of_ne_zero_right p j;obtain⟨a,f⟩:=Int.gcd_dvd_left (a:=p) (b:=q);obtain⟨b,hb⟩:=Int.gcd_dvd_right (a:=p) (b:=q);have hgz:((Int.gcd p q:Nat):Int)≠0:=by omega
 have s:p/((Int.gcd p q:Nat):Int)=a:=by
  have:((Int.gcd p q:Nat):Int)*a/((Int.gcd p q:Nat):Int)=a:=Int.mul_ediv_cancel_left _ hgz
  rwa [←f]at this
 have t:q/((Int.gcd p q:Nat):Int)=b:=by
  have:((Int.gcd p q:Nat):Int)*b/((Int.gcd p q:Nat):Int)=b:=Int.mul_ediv_cancel_left _ hgz
  rwa [←hb]at this
 refine⟨a,b,Int.gcd p q,rfl,k,by rw[Int.mul_comm];exact f,by rw[Int.mul_comm];exact hb,?_,?_,s,t⟩
 ·have h:=Int.gcd_mul_left (Int.gcd p q) a b;rw[←f,←hb]at h;simp only[Int.natAbs_natCast]at h;have:Int.gcd p q*1=Int.gcd p q*Int.gcd a b:=by omega
  exact(Nat.eq_of_mul_eq_mul_left k this).symm
 ·intro e;rw[e]at hb;simp at hb;exact j hb
theorem wS:Qr 0=⟨⟨false,[]⟩,⟨false,[]⟩⟩:=Qr0
theorem aIs{p q:Int}(e:q≠0):dl (Int.gcd p q)≤dl q.natAbs:=n9 (Nat.le_of_dvd (by omega) (Nat.gcd_dvd_right _ _))
theorem aAI{p q:Int}(f:q≠0)(j:dl p.natAbs≤20000000000)(k:dl q.natAbs≤20000000000):Ev (fun K=>iK K (Z p) (Z q)) (Qr (p/. q)):=by
 unfold iK;simp only[aCg,dF f,eD];by_cases hp:p=0
 ·subst hp;simp only[Rat.zero_divInt,wS];exact Ev.pure _
 ·simp only[dF hp,eD];obtain⟨a,b,g,h,G,s,t,u,x,y,z⟩:=aC1 (p:=p) f;have hgl:=aIs (p:=p) f;rw[h]at hgl;refine Ev.bind (aJF (by omega) (by omega)) ?_;rw[h];simp only[aCe,oB];have he:p/. q=a/. b:=by
   rw[s,t];exact Rat.divInt_mul_right (by omega)
  by_cases F:g=1
  ·have e:(!decide ((g:Int)=1))=false:=by rw[dT (by omega)];rfl
   simp only[e,eD];rw[wQ f (by rw[h];exact F)];exact Ev.pure _
  ·have e:(!decide ((g:Int)=1))=true:=by rw[dF (by omega)];rfl
   simp only[e,d9];refine Ev.bind (aGY (by omega) (by omega) (by simp;omega)) (Ev.bind (aGY (by omega) (by omega) (by simp;omega)) ?_);simp only[y,z];rw[wQ x u,he];exact Ev.pure _
theorem aHz(p:Int):Ev (fun K=>iK K (Z p) (Z 0)) (Qr 0):=by
 unfold iK;simp only[aCg,wS];exact Ev.pure _
theorem aHt{p q:Int}(f:q≠0)(u:dl p.natAbs≤20000000000)(x:dl q.natAbs≤20000000000):Ev (fun K=>jY K (Z p) (Z q)) (Qr (p/. q)):=by
 unfold jY;simp only[aCg,dF f,eD];by_cases hp:p=0
 ·subst hp;simp only[Rat.zero_divInt,wS];exact Ev.pure _
 ·simp only[dF hp,eD];obtain⟨a,b,g,h,j,k,s,t,F,y,z⟩:=aC1 (p:=p) f;have hgl:=aIs (p:=p) f;rw[h]at hgl;have hal:dl a.natAbs≤dl p.natAbs:=n9 (by
   rw[k,Int.natAbs_mul,Int.natAbs_natCast];exact Nat.le_mul_of_pos_right _ j)
  have hbl:dl b.natAbs≤dl q.natAbs:=n9 (by
   rw[s,Int.natAbs_mul,Int.natAbs_natCast];exact Nat.le_mul_of_pos_right _ j)
  refine Ev.bind (aI5 (by omega) (by omega)) ?_;rw[h];have he:p/. q=a/. b:=by
   rw[k,s];exact Rat.divInt_mul_right (by omega)
  refine Ev.bind (aCc (by omega) (by omega) (by simp;omega)) (Ev.bind (aCc (by omega) (by omega) (by simp;omega)) ?_);simp only[y,z,sW];rw[he];by_cases hb:b<0
  ·simp only[dT hb,d9];refine Ev.bind (aEu a (by omega)) (Ev.bind (aEu b (by omega)) ?_);simp only[aEJ,oB];rw[←Rat.neg_divInt_neg,aCI (by omega) (by simpa using t)];by_cases e:-b=1
   ·simp only[dT e,if_pos e,d9];exact Ev.pure _
   ·simp only[dF e,if_neg e,eD];exact Ev.pure _
  ·simp only[dF hb,eD,aEJ,oB];rw[aCI (by omega) t];by_cases e:b=1
   ·simp only[dT e,if_pos e,d9];exact Ev.pure _
   ·simp only[dF e,if_neg e,eD];exact Ev.pure _
theorem aFS(p:Int):Ev (fun K=>jY K (Z p) (Z 0)) (Qr 0):=by
 unfold jY;simp only[aCg,wS];exact Ev.pure _
theorem Qp(a:Rat):(Qr a).p=Z a.num:=by rw[aCB]
theorem Qq(a:Rat):(Qr a).q=if a.den=1 then⟨false,[]⟩ else Z a.den:=by rw[aCB]
theorem aFA(a:Rat):(((Qr a).q.d.length:Int)==0)=decide (a.den=1):=by
 rw[Qq];by_cases h:a.den=1
 ·rw[if_pos h,dT h];rfl
 ·rw[if_neg h,dF h,aCg,dF];have:=a.den_nz;omega
theorem aLN{a b:Rat}(h:Qr a=Qr b):a=b:=by
 have j:Z a.num=Z b.num:=by rw[←Qp,←Qp,h]
 have e:=congrArg d8.q h;rw[Qq,Qq]at e;have k:=aGj j;have s:a.den=b.den:=by
  by_cases f:a.den=1
  ·by_cases hb:b.den=1
   ·omega
   ·rw[if_pos f,if_neg hb,←Z0]at e;have:=aGj e;have:=b.den_nz;omega
  ·by_cases hb:b.den=1
   ·rw[if_neg f,if_pos hb,←Z0]at e;have:=aGj e;have:=a.den_nz;omega
   ·rw[if_neg f,if_neg hb]at e;have:=aGj e;omega
 exact Rat.ext k s
theorem aA0(a:Rat):eA (Qr a)=some (Z a.den):=by
 unfold eA y5;rw[aFA];by_cases h:a.den=1
 ·rw[dT h,d9,aCL (by omega),oB,oB,h];rfl
 ·rw[dF h,eD,Qq,if_neg h]
theorem xW{a:Rat}(h:qs a=true):dl a.num.natAbs≤40000000∧dl a.den≤40000000:=by
 unfold qs at h;simp only[Bool.and_eq_true,Nat.ble_eq]at h;have e:=aH6 a.num.natAbs;have f:=aH6 a.den;omega
theorem aFW(a b:Rat):a+b=(a.num*b.den+b.num*a.den)/. (a.den*b.den):=by
 have e:=a.den_nz;have hb:=b.den_nz
 conv=>lhs;rw[←Rat.num_divInt_den a,←Rat.num_divInt_den b]
 exact Rat.divInt_add_divInt _ _ (by omega) (by omega)
theorem aDP(a b:Rat):a*b=(a.num*b.num)/. (a.den*b.den):=by
 conv=>lhs;rw[←Rat.num_divInt_den a,←Rat.num_divInt_den b]
 exact Rat.divInt_mul_divInt _ _
theorem aIn(n:Int):Qr (n/. 1)=⟨Z n,⟨false,[]⟩⟩:=by
 rw[aCI (by omega) (by simp)];rfl
theorem aC7{a b:Rat}(j:qs a=true)(hb:qs b=true):dl (a.num*b.den).natAbs≤80000000∧dl (b.num*a.den).natAbs≤80000000∧dl (a.num*b.den+b.num*a.den).natAbs≤80000001∧dl ((a.den:Int)*b.den).natAbs≤80000000∧dl (a.num*b.num).natAbs≤80000000∧((a.den:Int)*b.den)≠0:=by
 obtain⟨a1,a2⟩:=xW j;obtain⟨s,b2⟩:=xW hb;have t:=aCn a.num.natAbs b.den;have u:=aCn b.num.natAbs a.den;have x:=aCn a.den b.den;have y:=aCn a.num.natAbs b.num.natAbs;have e:(a.num*b.den).natAbs=a.num.natAbs*b.den:=by rw[Int.natAbs_mul,Int.natAbs_natCast]
 have f:(b.num*a.den).natAbs=b.num.natAbs*a.den:=by rw[Int.natAbs_mul,Int.natAbs_natCast]
 have k:((a.den:Int)*b.den).natAbs=a.den*b.den:=by rw[Int.natAbs_mul,Int.natAbs_natCast,Int.natAbs_natCast]
 have q:(a.num*b.num).natAbs=a.num.natAbs*b.num.natAbs:=Int.natAbs_mul _ _;have hs:dl (a.num*b.den+b.num*a.den).natAbs≤80000001:=by
  have h:dl ((a.num*b.den).natAbs+(b.num*a.den).natAbs)≤80000000+1:=aLP (by rw[e];omega) (by rw[f];omega);exact Nat.le_trans (n9 (Int.natAbs_add_le _ _)) h
 refine⟨by rw[e];omega,by rw[f];omega,hs,by rw[k];omega,by rw[q];omega,?_⟩;have h:=a.den_nz;have z:=b.den_nz;exact Int.mul_ne_zero (by omega) (by omega)
theorem aF8{a b:Rat}(x:qs a=true)(hb:qs b=true):Ev (fun K=>wK K (Qr a) (Qr b)) (Qr (a+b)):=by
 obtain⟨a1,a2⟩:=xW x;obtain⟨z,b2⟩:=xW hb;obtain⟨c1,F,G,I,J,y⟩:=aC7 x hb;have key:Ev (fun K=>(eA (Qr a)).bind fun e=>(eA (Qr b)).bind fun f=>(bL K (Z a.num) f).bind fun j=>(bL K (Z b.num) e).bind fun v20=>(lS K j v20).bind fun k=>(bL K e f).bind fun q=>(iK K k q).bind fun s=>some s) (Qr (a+b)):=by
  simp only[aA0,oB];refine Ev.bind (vM (by simp;omega)) (Ev.bind (vM (by simp;omega)) (Ev.bind (aG3 (by omega) (by omega)) (Ev.bind (vM (by simp;omega)) (Ev.bind (aAI y (by omega) (by omega)) ?_))));rw[←aFW];exact Ev.pure _
 have h:Ev (fun K=>bif decide (a.num=0) then some (Qr b) else bif decide (b.num=0) then some (Qr a) else(eA (Qr a)).bind fun e=>(eA (Qr b)).bind fun f=>(bL K (Z a.num) f).bind fun j=>(bL K (Z b.num) e).bind fun v20=>(lS K j v20).bind fun k=>(bL K e f).bind fun q=>(iK K k q).bind fun s=>some s) (Qr (a+b)):=by
  by_cases t:a.num=0
  ·simp only[dT t,d9];rw[Rat.num_eq_zero.1 t,Rat.zero_add];exact Ev.pure _
  ·simp only[dF t,eD];by_cases u:b.num=0
   ·simp only[dT u,d9];rw[Rat.num_eq_zero.1 u,Rat.add_zero];exact Ev.pure _
   ·simp only[dF u,eD];exact key
 unfold wK;simp only[aFA,Qp,aCg];by_cases t:a.den=1
 ·simp only[dT t,d9];by_cases u:b.den=1
  ·simp only[dT u,d9];refine Ev.bind (aG3 (by omega) (by omega)) ?_;have:a+b=(a.num+b.num)/. 1:=by
    rw[aFW,t,u];simp
   rw[this,aIn];exact Ev.pure _
  ·simp only[dF u,eD];exact h
 ·simp only[dF t,eD];exact h
theorem aEj{n:Int}{d e:Nat}(h:(n/. (d:Int)).den=e)(f:d≠0):e∣d:=by
 rw[Rat.den_divInt,if_neg (by omega)]at h;rw[←h];simp only[Int.natAbs_natCast];exact Nat.div_dvd_of_dvd (by rw[Int.gcd_comm];exact Nat.gcd_dvd_right _ _)
theorem aDD{n:Int}{d:Nat}(f:d≠0):(n/. (d:Int)).num.natAbs∣n.natAbs:=by
 rw[Rat.num_divInt,Int.sign_eq_one_of_pos (by omega),Int.one_mul];rw[Int.gcd_comm];obtain⟨c,hc⟩:=Int.gcd_dvd_left (a:=n) (b:=(d:Int));have h:0<Int.gcd n d:=Int.gcd_pos_of_ne_zero_right n (by omega);generalize Int.gcd n d=g at *;have e:n/(g:Int)=c:=by rw[hc];exact Int.mul_ediv_cancel_left _ (by omega)
 rw[e,hc,Int.natAbs_mul];exact Nat.dvd_mul_left _ _
theorem aJJ{a b:Rat}:Int.gcd ((a.num/. b.den).num*(b.num/. a.den).num) (((a.num/. b.den).den:Int)*(b.num/. a.den).den)=1:=by
 have e:=a.den_nz;have hb:=b.den_nz;have f:=(a.num/. b.den).reduced;have h:=(b.num/. a.den).reduced;have ra:=a.reduced;have rb:=b.reduced;have j:(a.num/. (b.den:Int)).num.natAbs∣a.num.natAbs:=aDD hb;have k:(b.num/. (a.den:Int)).num.natAbs∣b.num.natAbs:=aDD e;have d1:(a.num/. (b.den:Int)).den∣b.den:=aEj rfl hb;have d2:(b.num/. (a.den:Int)).den∣a.den:=aEj rfl e;have x1:Nat.Coprime (a.num/. (b.den:Int)).num.natAbs (b.num/. (a.den:Int)).den:=Nat.Coprime.coprime_dvd_left j (Nat.Coprime.coprime_dvd_right d2 ra);have q:Nat.Coprime (b.num/. (a.den:Int)).num.natAbs (a.num/. (b.den:Int)).den:=Nat.Coprime.coprime_dvd_left k (Nat.Coprime.coprime_dvd_right d1 rb);show Nat.gcd _ _=1;rw[Int.natAbs_mul,Int.natAbs_mul,Int.natAbs_natCast,Int.natAbs_natCast];exact Nat.Coprime.mul_left (Nat.Coprime.mul_right f x1) (Nat.Coprime.mul_right q h)
theorem aGw{n:Int}{d:Nat}(e:d≠0):dl (n/. (d:Int)).num.natAbs≤dl n.natAbs∧dl (n/. (d:Int)).den≤dl d:=by
 constructor
 ·by_cases h:n=0
  ·subst h;rw[Rat.zero_divInt];exact Nat.le_refl _
  ·exact n9 (Nat.le_of_dvd (by omega) (aDD e))
 ·exact n9 (Nat.le_of_dvd (by omega) (aEj rfl e))
theorem aHo{a b:Rat}(y:qs a=true)(hb:qs b=true):Ev (fun K=>(eA (Qr b)).bind fun h=>(iK K (Z a.num) h).bind fun e=>(eA (Qr a)).bind fun j=>(iK K (Z b.num) j).bind fun f=>(bL K e.p f.p).bind fun k=>(eA e).bind fun q=>(eA f).bind fun s=>(bL K q s).bind fun t=>(lR k t).bind fun v30=>some v30) (Qr (a*b)):=by
 obtain⟨a1,a2⟩:=xW y;obtain⟨z,b2⟩:=xW hb;have u:=a.den_nz;have x:=b.den_nz;have F:=aGw (n:=a.num) x;have G:=aGw (n:=b.num) u;simp only[aA0,oB];refine Ev.bind (aAI (by omega) (by omega) (by simp;omega)) (Ev.bind (aAI (by omega) (by omega) (by simp;omega)) ?_);simp only[Qp];refine Ev.bind (vM (by omega)) ?_;simp only[aA0,oB];refine Ev.bind (vM (by rw[Int.natAbs_natCast,Int.natAbs_natCast];omega)) ?_;have I:=(a.num/. (b.den:Int)).den_nz;have J:=(b.num/. (a.den:Int)).den_nz;rw[wQ (Int.mul_ne_zero (by omega) (by omega)) aJJ,oB,←aDP];have:a.num/. (b.den:Int)*(b.num/. (a.den:Int))=a*b:=by
  rw[Rat.divInt_mul_divInt,aDP,Int.mul_comm (b.den:Int)]
 rw[this];exact Ev.pure _
theorem aGg{a b:Rat}(k:qs a=true)(hb:qs b=true):Ev (fun K=>wG K (Qr a) (Qr b)) (Qr (a*b)):=by
 obtain⟨a1,a2⟩:=xW k;obtain⟨q,b2⟩:=xW hb;have key:=aHo k hb;unfold wG;simp only[aFA,Qp,aCg];by_cases e:a.num=0
 ·simp only[dT e,d9];rw[Rat.num_eq_zero.1 e,Rat.zero_mul,wS];exact Ev.pure _
 ·simp only[dF e,eD];by_cases f:b.num=0
  ·simp only[dT f,d9];rw[Rat.num_eq_zero.1 f,Rat.mul_zero,wS];exact Ev.pure _
  ·simp only[dF f,eD];by_cases h:a.den=1
   ·simp only[dT h,d9];by_cases j:b.den=1
    ·simp only[dT j,d9];refine Ev.bind (vM (by omega)) ?_;have:a*b=(a.num*b.num)/. 1:=by rw[aDP,h,j];rfl
     rw[this,aIn];exact Ev.pure _
    ·simp only[dF j,eD];exact key
   ·simp only[dF h,eD];exact key
theorem aGF(a:Rat):wJ (Qr a)=some (Qr (-a)):=by
 unfold wJ;rw[Qp,aGS,oB];congr 1;rw[aCB (-a),Rat.neg_num,Rat.neg_den,Qq]
theorem aMs{a:Rat}(h:qs a=true):qs (-a)=true:=by
 unfold qs at *;rw[Rat.neg_num,Rat.neg_den,Int.natAbs_neg];exact h
theorem aJP{a b:Rat}(e:qs a=true)(hb:qs b=true):Ev (fun K=>yW K (Qr a) (Qr b)) (Qr (a-b)):=by
 unfold yW;simp only[aGF,oB];refine Ev.bind (aF8 e (aMs hb)) ?_;rw[Rat.sub_eq_add_neg];exact Ev.pure _
theorem aEX(a:Rat):tA (Qr a)=some a.num.sign:=by
 unfold tA;rw[Qp,aHL];rfl
theorem aDJ{b:Rat}(h:b.num≠0):b⁻¹=(b.den:Int)/. b.num:=Rat.inv_def b
theorem aMy{b:Rat}(hb:qs b=true):qs (b⁻¹)=true:=by
 by_cases h:b.num=0
 ·rw[Rat.num_eq_zero.1 h,Rat.inv_zero];decide
 ·have hc:Nat.gcd b.num.natAbs b.den=1:=b.reduced;rw[aDJ h];unfold qs at *;have e:((b.den:Int)/. b.num).num.natAbs=b.den:=by
   rw[Rat.num_divInt];have:Int.gcd b.num b.den=1:=hc;rw[this];simp only[Int.natCast_one,Int.ediv_one,Int.natAbs_mul,Int.natAbs_natCast,Int.natAbs_sign_of_ne_zero h,Nat.one_mul]
  have f:((b.den:Int)/. b.num).den=b.num.natAbs:=by
   rw[Rat.den_divInt,if_neg h];have:Int.gcd b.num b.den=1:=hc;rw[this,Nat.div_one]
  rw[e,f,Bool.and_comm];exact hb
theorem aJK{a b:Rat}(e:qs a=true)(hb:qs b=true):Ev (fun K=>y4 K (Qr a) (Qr b)) (Qr (a/b)):=by
 unfold y4;simp only[Qp,aCg];by_cases h:b.num=0
 ·simp only[dT h,d9];rw[Rat.num_eq_zero.1 h,Rat.div_def,Rat.inv_zero,Rat.mul_zero,wS];exact Ev.pure _
 ·simp only[dF h,eD,aA0,oB];have hc:Int.gcd (b.den:Int) b.num=1:=by rw[Int.gcd_comm];exact b.reduced
  rw[wQ h hc,←aDJ h];simp only[oB];refine Ev.bind (aGg e (aMy hb)) ?_;rw[Rat.div_def];exact Ev.pure _
theorem aEW(x y:List Int)(F:x.length=y.length)(G:x.length≤9000000000000):∀(t i:Nat),i+t=x.length→∀K k,t<k→fP K x y k (i:Int)=some (if x.drop i=y.drop i then .go () else .ret false)
 |0,i,I,K,k,j=>by
  obtain⟨q,rfl,_⟩:=cF j;have:i=x.length:=by omega
  subst this;simp only[fP,dF (show¬(x.length:Int)<(x.length:Int) by omega),eD];rw[if_pos];rw[List.drop_of_length_le (Nat.le_refl _),List.drop_of_length_le (by omega)]
 |t+1,i,I,K,k,j=>by
  obtain⟨q,rfl,_⟩:=cF j;have s:decide ((i:Int)<(x.length:Int))=true:=dT (by omega);have u:=cV (xs:=x) (i:=i) (by omega);have z:=cV (xs:=y) (i:=i) (by omega);have J:aV ((i:Int)+1)=some ((i+1:Nat):Int):=tK (m:=0) (by omega) (by omega);have dx:x.drop i=x.getD i 0::x.drop (i+1):=by
   rw[List.drop_eq_getElem_cons (by omega)];simp[List.getD_eq_getElem?_getD,show i<x.length by omega]
  have dy:y.drop i=y.getD i 0::y.drop (i+1):=by
   rw[List.drop_eq_getElem_cons (by omega)];simp[List.getD_eq_getElem?_getD,show i<y.length by omega]
  by_cases h:x.getD i 0=y.getD i 0
  ·have ih:=aEW x y F G t (i+1) (by omega) K q (by omega);simp only[fP,s,u,z,J,nF h,d9,eD,oB,ih];by_cases f:x.drop (i+1)=y.drop (i+1)
   ·rw[if_pos f,if_pos (by rw[dx,dy,h,f])]
   ·rw[if_neg f,if_neg (by rw[dx,dy];intro e;exact f (List.cons.inj e).2)]
  ·simp only[fP,s,u,z,nT h,d9,oB];rw[if_neg (by rw[dx,dy];intro e;exact h (List.cons.inj e).1)]
theorem aHj(x y:List Int)(k:x.length≤9000000000000):Ev (fun K=>m8 K x y) (decide (x=y)):=by
 refine⟨x.length+1,fun K q=>?_⟩;unfold m8;by_cases j:x.length=y.length
 ·have h:=aEW x y j k x.length 0 (by omega) K K (by omega);simp only[Int.natCast_zero,List.drop_zero]at h;simp only[nF (show(x.length:Int)=(y.length:Int) by omega),eD,h,oB];by_cases f:x=y
  ·rw[if_pos f,dT f];rfl
  ·rw[if_neg f,dF f]
 ·simp only[nT (show(x.length:Int)≠(y.length:Int) by omega),d9];rw[dF (by intro e;subst e;exact j rfl)]
theorem aDr(x y:aF)(k:x.d.length≤9000000000000):Ev (fun K=>rG K x y) (decide (x=y)):=by
 unfold rG;by_cases f:x.neg=y.neg
 ·have h:(x.neg==y.neg)=true:=beq_iff_eq.2 f;simp only[h,d9];refine Ev.bind (aHj _ _ k) ?_;have:decide (x.d=y.d)=decide (x=y):=by
   by_cases j:x.d=y.d
   ·rw[dT j,dT (by cases x;cases y;simp_all)]
   ·rw[dF j,dF (by intro e;subst e;exact j rfl)]
  rw[this];exact Ev.pure _
 ·have h:(x.neg==y.neg)=false:=beq_false_of_ne f;simp only[h,eD];rw[dF (by intro e;subst e;exact f rfl)];exact Ev.pure _
theorem aNM{a:Rat}(h:qs a=true):(Qr a).p.d.length≤9000000000000∧(Qr a).q.d.length≤9000000000000:=by
 obtain⟨a1,a2⟩:=xW h;rw[Qp,Qq,o6];refine⟨by omega,?_⟩;by_cases h:a.den=1
 ·rw[if_pos h];simp
 ·rw[if_neg h,o6];simp;omega
theorem aIg(a b:Rat):(bif decide ((Qr a).p=(Qr b).p) then decide ((Qr a).q=(Qr b).q) else false)=decide (a=b):=by
 by_cases h:a=b
 ·subst h;simp
 ·rw[dF h];by_cases e:(Qr a).p=(Qr b).p
  ·rw[dT e,d9,dF];intro f;exact h (aLN (by cases j:Qr a;cases k:Qr b;rw[j,k]at e f;simp_all))
  ·rw[dF e];rfl
theorem aIG{a b:Rat}(e:qs a=true)(hb:qs b=true):Ev (fun K=>wY K (Qr a) (Qr b)) (decide (a=b)):=by
 obtain⟨f,j⟩:=aNM e;unfold wY;refine Ev.bind (aDr _ _ f) ?_;rw[←aIg];by_cases h:(Qr a).p=(Qr b).p
 ·simp only[dT h,d9];exact Ev.bind (aDr _ _ j) (Ev.pure _)
 ·simp only[dF h,eD];exact Ev.pure _
theorem aL1{p q:Int}(hp:-9223372036854775808≤p∧p≤9223372036854775807)(e:-9223372036854775808≤q∧q≤9223372036854775807):Ev (fun K=>aA5 K p q) (Qr ((p:Rat)/q)):=by
 have hs:∀n:Int,-9223372036854775808≤n∧n≤9223372036854775807→dl n.natAbs≤3:=fun n h=>z3 (by
  have:PB 3=1000000000000000000000000000:=by decide
  omega)
 have f:=hs p hp;have j:=hs q e;unfold aA5;simp only[aCL hp,aCL e,oB];rw[←Rat.divInt_eq_div];by_cases h:q=0
 ·subst h;rw[Rat.divInt_zero];exact Ev.bind (aHz p) (Ev.pure _)
 ·exact Ev.bind (aAI h (by omega) (by omega)) (Ev.pure _)
theorem aKk{p q:Int}(hp:-9223372036854775808≤p∧p≤9223372036854775807)(e:-9223372036854775808≤q∧q≤9223372036854775807):Ev (fun K=>rC K p q) (Qr ((p:Rat)/q)):=by
 have hs:∀n:Int,-9223372036854775808≤n∧n≤9223372036854775807→dl n.natAbs≤3:=fun n h=>z3 (by
  have:PB 3=1000000000000000000000000000:=by decide
  omega)
 have f:=hs p hp;have j:=hs q e;unfold rC;refine Ev.bind (yV hp) (Ev.bind (yV e) ?_);rw[←Rat.divInt_eq_div];by_cases h:q=0
 ·subst h;rw[Rat.divInt_zero];exact Ev.bind (aFS p) (Ev.pure _)
 ·exact Ev.bind (aHt h (by omega) (by omega)) (Ev.pure _)
theorem Ev.get{α:Type}{f:Nat→Option α}{r:α}(h:Ev f r):∃K,f K=some r:=let ⟨N,h⟩:=h;⟨N,h N (Nat.le_refl _)⟩
theorem aA9{α:Type}{a b:Rat}{r s:α}(h:(bif qs a&&qs b then some s else none)=some r):qs a=true∧qs b=true∧s=r:=by
 cases e:qs a<;>cases hb:qs b<;>rw[e,hb]at h<;>simp at h;exact⟨rfl,rfl,h⟩
theorem aHO{α:Type}{a:Rat}{r s:α}(h:(bif qs a then some s else none)=some r):qs a=true∧s=r:=by
 cases e:qs a<;>rw[e]at h<;>simp at h;exact⟨rfl,h⟩
theorem aLn{p q:Int}{r:Rat}(h:qof p q=some r):(-9223372036854775808≤p∧p≤9223372036854775807)∧(-9223372036854775808≤q∧q≤9223372036854775807)∧r=(p:Rat)/q:=by
 unfold qof at h;obtain⟨y,f,j⟩:=aR h;obtain⟨z,k,e⟩:=aR j;obtain⟨s,t⟩:=vB f;obtain⟨u,x⟩:=vB k;rw[s,u]at e;exact⟨t,x,(Option.some.inj e).symm⟩
theorem aFv{a b r:Rat}(h:aKw a b=some r):Ct Tryz.prog aG9 [.va (eQ a),.va (eQ b)] (.va (eQ r)):=by
 obtain⟨e,f,rfl⟩:=aA9 h;obtain⟨K,j⟩:=(aF8 e f).get;exact aCD j
theorem wX{a b r:Rat}(h:aFs a b=some r):Ct Tryz.prog aHq [.va (eQ a),.va (eQ b)] (.va (eQ r)):=by
 obtain⟨e,f,rfl⟩:=aA9 h;obtain⟨K,j⟩:=(aJP e f).get;exact aF3 j
theorem aAj{a b r:Rat}(h:aHf a b=some r):Ct Tryz.prog aHd [.va (eQ a),.va (eQ b)] (.va (eQ r)):=by
 obtain⟨e,f,rfl⟩:=aA9 h;obtain⟨K,j⟩:=(aGg e f).get;exact aBS j
theorem aBZ{a b r:Rat}(h:aJn a b=some r):Ct Tryz.prog aHy [.va (eQ a),.va (eQ b)] (.va (eQ r)):=by
 obtain⟨e,f,rfl⟩:=aA9 h;obtain⟨K,j⟩:=(aJK e f).get;exact aFD j
theorem w9{a r:Rat}(h:aF2 a=some r):Ct Tryz.prog aHC [.va (eQ a)] (.va (eQ r)):=by
 obtain⟨e,rfl⟩:=aHO h;exact aBW (aGF a)
theorem jG{a:Rat}{r:Int}(h:yN a=some r):Ct Tryz.prog aFF [.va (eQ a)] (.vc (pI .i64 r)):=by
 obtain⟨e,rfl⟩:=aHO h;exact yI (aEX a)
theorem lZ{a b:Rat}{r:Bool}(h:xR a b=some r):Ct Tryz.prog aFX [.va (eQ a),.va (eQ b)] (.vc (pB r)):=by
 obtain⟨e,f,rfl⟩:=aA9 h;obtain⟨K,j⟩:=(aIG e f).get;exact aE9 j
theorem yT{p q:Int}{r:Rat}(h:qof p q=some r):Ct Tryz.prog aIM [.vc (pI .i64 p),.vc (pI .i64 q)] (.va (eQ r)):=by
 obtain⟨e,f,rfl⟩:=aLn h;obtain⟨K,j⟩:=(aL1 e f).get;exact aHA j
theorem dM{p q:Int}{r:Rat}(h:qof p q=some r):Ct Tryz.prog aBf [.vc (pI .i64 p),.vc (pI .i64 q)] (.va (eQ r)):=by
 obtain⟨e,f,rfl⟩:=aLn h;obtain⟨K,j⟩:=(aKk e f).get;exact aAZ j
theorem rdG{α:Type}{xs:List α}{i:Nat}{x:α}(h:xs[i]?=some x):cT xs (i:Int)=some x:=by
 unfold cT;rw[if_pos (by omega)];simpa using h
theorem rdM{α:Type}{xs:List α}{i:Nat}(h:i<xs.length):∃x,x∈xs∧xs[i]?=some x∧cT xs (i:Int)=some x:=
 ⟨xs[i],List.getElem_mem h,List.getElem?_eq_getElem h,rdG (List.getElem?_eq_getElem h)⟩
theorem stG{α:Type}{xs:List α}{i:Nat}{v:α}(h:i<xs.length):oZ xs (i:Int) v=some (xs.set i v):=by
 unfold oZ;rw[if_pos (by constructor;omega;simpa using h)];simp
def aFg(xs:List Int):Prop:=∀x∈xs,-9223372036854775808≤x∧x≤9223372036854775807
def Bd(n:Nat)(q:Rat):Prop:=q.num.natAbs<2^n∧q.den<2^n
theorem Bd.mono{m n:Nat}{q:Rat}(h:Bd m q)(e:m≤n):Bd n q:=
 ⟨Nat.lt_of_lt_of_le h.1 (Nat.pow_le_pow_right (by decide) e),Nat.lt_of_lt_of_le h.2 (Nat.pow_le_pow_right (by decide) e)⟩
theorem aGZ{a n:Nat}(h:a<2^n)(f:n≤1073741824):a.log2≤1073741824:=by
 by_cases e:a=0
 ·subst e;decide
 ·have:=(Nat.log2_lt e).2 h;omega
theorem Bd.qs{n:Nat}{q:Rat}(h:Bd n q)(e:n≤1073741824):qs q=true:=by
 unfold Go.Proofs.YtnmdhmfofbfkjaaGreat.qs;rw[Bool.and_eq_true,Nat.ble_eq,Nat.ble_eq];exact⟨aGZ h.1 e,aGZ h.2 e⟩
theorem aCR(n:Int){d:Int}(e:d≠0):(Rat.divInt n d).num.natAbs≤n.natAbs:=by
 rw[Rat.num_divInt];have h:(d.sign*n/((d.gcd n:Nat):Int)).natAbs≤(d.sign*n).natAbs:=Int.natAbs_ediv_le_natAbs _ _;rw[Int.natAbs_mul,Int.natAbs_sign_of_ne_zero e,Nat.one_mul]at h;exact h
theorem aCW(n:Int){d:Int}(e:d≠0):(Rat.divInt n d).den≤d.natAbs:=by
 rw[Rat.den_divInt,if_neg e];exact Nat.div_le_self _ _
theorem Bd.divInt{k:Nat}{n d:Int}(e:d≠0)(f:n.natAbs<2^k)(h:d.natAbs<2^k):Bd k (Rat.divInt n d):=
 ⟨Nat.lt_of_le_of_lt (aCR n e) f,Nat.lt_of_le_of_lt (aCW n e) h⟩
theorem Bd.zero:Bd 1 0:=by constructor<;>decide
theorem aAL{a b m n:Nat}(e:a<2^m)(f:b<2^n):a*b<2^(m+n):=by
 rw[Nat.pow_add];exact Nat.mul_lt_mul'' e f
theorem Bd.mul{m n:Nat}{a b:Rat}(e:Bd m a)(hb:Bd n b):Bd (m+n) (a*b):=by
 rw[aDP];refine Bd.divInt (Int.mul_ne_zero (by have:=a.den_nz;omega) (by have:=b.den_nz;omega)) ?_ ?_
 ·rw[Int.natAbs_mul];exact aAL e.1 hb.1
 ·rw[Int.natAbs_mul,Int.natAbs_natCast,Int.natAbs_natCast];exact aAL e.2 hb.2
theorem Bd.add{m n:Nat}{a b:Rat}(e:Bd m a)(hb:Bd n b):Bd (m+n+1) (a+b):=by
 rw[aFW];have h:=aAL e.1 hb.2;have f:=aAL hb.1 e.2;have j:=aAL e.2 hb.2;rw[Nat.add_comm n m]at f;refine Bd.divInt (Int.mul_ne_zero (by have:=a.den_nz;omega) (by have:=b.den_nz;omega)) ?_ ?_
 ·have:=Int.natAbs_add_le (a.num*b.den) (b.num*a.den);rw[Int.natAbs_mul,Int.natAbs_mul,Int.natAbs_natCast,Int.natAbs_natCast]at this;rw[Nat.pow_succ];omega
 ·rw[Int.natAbs_mul,Int.natAbs_natCast,Int.natAbs_natCast,Nat.pow_succ];omega
theorem Bd.neg{n:Nat}{a:Rat}(e:Bd n a):Bd n (-a):=by
 unfold Bd;rw[Rat.neg_num,Rat.neg_den,Int.natAbs_neg];exact e
theorem Bd.sub{m n:Nat}{a b:Rat}(e:Bd m a)(hb:Bd n b):Bd (m+n+1) (a-b):=by
 rw[Rat.sub_eq_add_neg];exact e.add hb.neg
theorem Bd.inv{n:Nat}{b:Rat}(hb:Bd n b)(e:1≤n):Bd n b⁻¹:=by
 by_cases h:b.num=0
 ·rw[Rat.num_eq_zero.1 h,Rat.inv_zero];exact Bd.zero.mono e
 ·rw[aDJ h];exact Bd.divInt h (by simpa using hb.2) hb.1
theorem Bd.pos{n:Nat}{q:Rat}(h:Bd n q):1≤n:=by
 rcases Nat.eq_zero_or_pos n with e|e
 ·subst e;have:=h.2;have:=q.den_nz;omega
 ·exact e
theorem Bd.div{m n:Nat}{a b:Rat}(e:Bd m a)(hb:Bd n b):Bd (m+n) (a/b):=by
 rw[Rat.div_def];exact e.mul (hb.inv hb.pos)
theorem aJR{m n:Nat}{a b:Rat}(e:Bd m a)(hb:Bd n b)(hm:m≤1073741824)(f:n≤1073741824):aKw a b=some (a+b):=by
 unfold aKw;rw[e.qs hm,hb.qs f];rfl
theorem aBE{m n:Nat}{a b:Rat}(e:Bd m a)(hb:Bd n b)(hm:m≤1073741824)(f:n≤1073741824):aFs a b=some (a-b):=by
 unfold aFs;rw[e.qs hm,hb.qs f];rfl
theorem aEg{m n:Nat}{a b:Rat}(e:Bd m a)(hb:Bd n b)(hm:m≤1073741824)(f:n≤1073741824):aHf a b=some (a*b):=by
 unfold aHf;rw[e.qs hm,hb.qs f];rfl
theorem aGm{m n:Nat}{a b:Rat}(e:Bd m a)(hb:Bd n b)(hm:m≤1073741824)(f:n≤1073741824):aJn a b=some (a/b):=by
 unfold aJn;rw[e.qs hm,hb.qs f];rfl
theorem aJq{m n:Nat}{a b:Rat}(e:Bd m a)(hb:Bd n b)(hm:m≤1073741824)(f:n≤1073741824):xR a b=some (decide (a=b)):=by
 unfold xR;rw[e.qs hm,hb.qs f];rfl
theorem aBD{m:Nat}{a:Rat}(e:Bd m a)(hm:m≤1073741824):aF2 a=some (-a):=by
 unfold aF2;rw[e.qs hm];rfl
theorem uB{m:Nat}{a:Rat}(e:Bd m a)(hm:m≤1073741824):yN a=some a.num.sign:=by
 unfold yN;rw[e.qs hm];rfl
theorem aDU{p q:Int}(hp:-9223372036854775808≤p∧p≤9223372036854775807)(e:-9223372036854775808≤q∧q≤9223372036854775807):qof p q=some ((p:Rat)/q):=by
 unfold qof;rw[qB hp,qB e];rfl
theorem Bd.of{k:Nat}{p q:Int}(e:q≠0)(f:p.natAbs<2^k)(h:q.natAbs<2^k):Bd k ((p:Rat)/q):=by
 rw[←Rat.divInt_eq_div];exact Bd.divInt e f h
open Go.ChangeShapes Go.WideShapes Go.ChangeAt Go.RowKit
inductive AV
 |vi (n:Int)
 |vs (xs:List Int)
 |vb (b:Bool)
inductive AK
 |ki
 |ks
 |kb
def AV.vp:AV→VP
 | .vi n=>.vc (pI .i64 n)
 | .vs xs=>.vc (pS cI xs)
 | .vb x=>.vc (pB x)
def AV.good:AK→AV→Prop
 | .ki,.vi n=>-9223372036854775808≤n∧n≤9223372036854775807
 | .ks,.vs xs=>aFg xs∧xs.length≤xM
 | .kb,.vb _=>True
 |_,_=>False
def AK.ok(P:Program)(t:TypeId):AK→Prop
 | .ki=>P.underlying t=some (.int .i64)
 | .ks=>∃e,P.underlying t=some (.slice e)∧P.underlying e=some (.int .i64)∧P.cellsOf e=1
 | .kb=>P.underlying t=some .bool
def aC2(W:World):iE:=fun b=>W.heap[b]?
theorem aJM{H:Type}{enc:TypeId×Value→H}{P:Program}{W:World}{base:Nat}{t:TypeId}{v:Value}{d:DataW H}{p:List MemPlace}{k:AK}(G:k.ok P t)(hval:Value.okWide P W .any base t v)(h:DataW.Trod enc P W 0 (fun _=>true) true t v d p):
  ∃av:AV,AV.good k av∧av.vp.h (aC2 W) v∧∀(W':World) (sp:Nat→Bool),(∀b,b<W.heap.size→W'.heap[b]?=W.heap[b]?)→(∀q∈p,sp q.block=true)→DataW.Trod enc P W' 0 sp true t v d p:=by
 cases k with
 |ki=>
  obtain⟨n,rfl,rfl,rfl,hw⟩:=open_int G hval h;exact⟨.vi n,bounds_i64 hw,rfl,fun W' sp _ _=>shut_int G hw⟩
 |kb=>
  obtain⟨x,rfl,rfl,rfl⟩:=open_bool G hval h;exact⟨.vb x,trivial,rfl,fun W' sp _ _=>shut_bool G x⟩
 |ks=>
  obtain⟨e,I,he,hc⟩:=G;obtain⟨a0,aCg,y,rfl⟩:=okWide_slice I hval;obtain⟨cF,hf⟩:=h;rcases open_ints I he hc hf with⟨L,h2⟩|⟨a,len,cap,zs,L,hb,hl,hm,hz,F,hcell,hw⟩
  ·have z:Value.slice a0 aCg y=.slice none 0 0:=by simpa [Value.cells] using L
   rw[z];simp only[Prod.mk.injEq]at h2;obtain⟨rfl,rfl⟩:=h2;exact⟨.vs [],⟨fun x F=>by simp at F,by simp⟩,jV cI _,fun W' sp _ _=>shut_slice_nil I⟩
  ·have z:Value.slice a0 aCg y=.slice (some a) len cap:=by simpa [Value.cells] using L
   rw[z];simp only[Prod.mk.injEq]at F;obtain⟨rfl,rfl⟩:=F;have hzl:zs.length=cap:=by simpa using hz
   have hbl:∀i,i<zs.length→a.block<W.heap.size:=fun i J=>by
    have:=hcell i J;unfold World.cell? at this;rw[block_add]at this;cases K:W.heap[a.block]? with
    |none=>rw[K]at this;cases this
    |some o=>exact(Array.getElem?_eq_some_iff.1 K).1
   refine⟨.vs (zs.take len),⟨fun x F=>bounds_i64 (hw x (List.mem_of_mem_take F)),?_⟩,?_,fun W' sp hW hsp=>⟨2,?_⟩⟩
   ·have O:(zs.take len).length≤cap:=by simp;omega
    have:maxLen≤xM:=by decide
    omega
   ·have hlen:(zs.take len).length=len:=by simp;omega
    refine⟨some a,cap,by rw[hlen],?_,by rw[hlen];exact hl,fun j x U=>?_⟩
    ·rw[hlen];have:maxLen≤xM:=by decide
     omega
    ·have hjl:j<len:=by have:=(List.getElem?_eq_some_iff.1 U).1;omega
     have hcj:=hcell j (by omega);have hsp:a.spot=none:=by
      have f:=hcell 0 (by omega);unfold World.cell? at f;cases K:a.spot with
      |none=>rfl
      |some s=>
       have e0:a.add 0=a:=by simp[Addr.add]
       rw[e0,K]at f;cases hh:W.heap[a.block]? with
       |none=>rw[hh]at f;cases f
       |some o=>rw[hh]at f;cases o<;>simp at f
     obtain⟨ab,ao,ax⟩:=a;simp only at hsp;subst hsp;have hxz:zs.getD j 0=x:=by
      rw[List.getElem?_take,if_pos hjl]at U;simp[List.getD_eq_getElem?_getD,U]
     rw[w5,hxz]at hcj;refine⟨ab,ao,rfl,[.int .i64 x],⟨rfl,trivial⟩,fun t u hu=>?_⟩;cases t with
     |succ t=>simp at hu
     |zero=>
      simp only[List.getElem?_cons_zero,Option.some.injEq]at hu;subst hu;unfold World.cell? at hcj;have e1:ao+j*cI.n+0=ao+j:=by show ao+j*1+0=ao+j;omega
      rw[e1];unfold sY aC2;cases hh:W.heap[ab]? with
      |none=>rw[hh]at hcj;cases hcj
      |some o=>rw[hh]at hcj;cases o<;>simp_all
   ·have V:zs.length=(if sp a.block then cap else len):=by
     by_cases h0:cap=0
     ·have:len=0:=by omega
      rw[hzl,h0,this];simp
     ·have:sp a.block=true:=hsp (.cell a.block (a.off+0)) (by
       unfold MemPlace.row;exact List.mem_map.2 ⟨0,List.mem_range.2 (by omega),rfl⟩)
      rw[this];simpa using hzl
    exact shut_ints 0 I he hc (Nat.zero_le _) hl hm V (fun i J=>by
     rw[←hcell i J];unfold World.cell?;rw[block_add,hW _ (hbl i J)]) hw
def AKs(P:Program):List TypeId→List AK→Prop
 |[],[]=>True
 |t::ts,k::ks=>k.ok P t∧AKs P ts ks
 |_,_=>False
def aE1:List AK→List AV→Prop
 |[],[]=>True
 |k::ks,a::l=>AV.good k a∧aE1 ks l
 |_,_=>False
theorem aEQ{H:Type}{enc:TypeId×Value→H}{P:Program}{W:World}{base:Nat}:∀{ts:List TypeId} {ks:List AK} {vs:List Value} {ds:List (DataW H)} {p:List MemPlace},AKs P ts ks→
  (∀(j:Nat) t v,ts[j]?=some t→vs[j]?=some v→Value.okWide P W .any base t v)→DataW.TrodAll enc P W 0 (fun _=>true) true ts vs ds p→
  ∃avs,aE1 ks avs∧jX (aC2 W) (avs.map AV.vp) vs∧ds.length=ts.length∧∀(W':World) (sp:Nat→Bool),(∀b,b<W.heap.size→W'.heap[b]?=W.heap[b]?)→(∀q∈p,sp q.block=true)→DataW.TrodAll enc P W' 0 sp true ts vs ds p
 |[],[],vs,ds,p,_,_,h=>by
  obtain⟨rfl,rfl,rfl⟩:=trodAll_nil h;exact⟨[],trivial,trivial,rfl,fun _ _ _ _=>trodAll_mk0⟩
 |t::ts,k::ks,vs,ds,p,e,hv,h=>by
  obtain⟨v,vs',d,ds',q,r,rfl,rfl,rfl,y,z⟩:=trodAll_cons h;obtain⟨av,a1,a2,a3⟩:=aJM e.1 (hv 0 t v rfl rfl) y;obtain⟨avs,F,b2,G,I⟩:=aEQ e.2 (fun j J K L f=>hv (j+1) J K (by simpa using L) (by simpa using f)) z;exact⟨av::avs,⟨a1,F⟩,⟨a2,b2⟩,by simp[G],fun W' sp u hsp=>trodAll_cons_mk (a3 W' sp u fun x s=>hsp x (by simp[s])) (I W' sp u fun x s=>hsp x (by simp[s]))⟩
 |[],_::_,_,_,_,e,_,_=>e.elim
 |_::_,[],_,_,_,e,_,_=>e.elim
theorem aKq{H:Type}{enc:TypeId×Value→H}{P:Program}{f:Func}{s:ChangeSpec}{apart fresh:Bool}{W W':World}{args:Array Value}{ds:List (DataW H)}{before:List MemPlace}{tb:TypeId}
  (e:DataW.Whole enc P f.params.toList s.vars apart W args.toList ds [] before)(hv:s.vars=[])(hr:f.resultTypes=#[tb])(htb:P.underlying tb=some .bool)
  (hfn:s.fn H (ds++[])={results:=[.lit (.bool true)],args:=ds})
  (hargs:∀sp:Nat→Bool,(∀p∈before,sp p.block=true)→DataW.TrodAll enc P W' 0 sp true f.params.toList args.toList ds before)(hb:Below W.heap.size W W'):
  s.post enc P f apart fresh false false W args (.bool true) W':=by
 have hin:∀p∈before,(fun b=>decide (b<W.heap.size)) p.block=true:=fun p hp=>by simpa using e.lt p hp
 refine⟨ds,[],before,[],before,[],e,?_,?_,?_,World.keptBut_mono (fun p hp=>⟨hp,.inr (.inl hp)⟩) (hb.frame (·∈before)),fun h=>by cases h⟩
 ·rw[hfn,hr];exact trodAll_mk1 (shut_bool htb true)
 ·rw[hfn];exact hargs _ hin
 ·rw[hfn,hv];simp[DataW.TrodVars]
theorem own:ownKnob Tryz.prog.godebug=none:=by kernel_rfl
open Go.ChangeShapes Go.WideShapes Go.ChangeAt Go.RowKit
theorem aMw{H:Type}(d:DataW H):1≤Rows.uptoBulk d:=by
 cases d with
 |lit l=>cases l<;>simp[Rows.uptoBulk]
 |nil=>simp[Rows.uptoBulk]
 |ptr d=>simp[Rows.uptoBulk]
 |slice elems spare=>simp[Rows.uptoBulk]
 |agg parts=>simp[Rows.uptoBulk]
 |iface t d=>simp[Rows.uptoBulk]
 |map entries=>simp[Rows.uptoBulk]
 |held h=>simp[Rows.uptoBulk]
theorem aLL{H:Type}(l:List (DataW H)):l.length≤Rows.uptoBulkAll l:=by
 induction l with
 |nil=>simp[Rows.uptoBulkAll]
 |cons x r ih=>have:=aMw x;simp only[Rows.uptoBulkAll,List.length_cons];omega
def AV.len:AV→Nat
 | .vs xs=>xs.length
 |_=>0
def aDg:List AV→Nat
 |[]=>0
 |a::l=>a.len+aDg l
theorem aJY{H:Type}{enc:TypeId×Value→H}{P:Program}{W:World}{t:TypeId}{v:Value}{d:DataW H}{p:List MemPlace}{k:AK}{av:AV}(x:k.ok P t)(q:AV.good k av)(y:av.vp.h (aC2 W) v)(h:DataW.Trod enc P W 0 (fun _=>true) true t v d p):av.len≤Rows.uptoBulk d:=by
 cases av with
 |vi n=>exact Nat.zero_le _
 |vb b=>exact Nat.zero_le _
 |vs xs=>
  cases k with
  |ki=>exact q.elim
  |kb=>exact q.elim
  |ks=>
   obtain⟨e,z,he,hc⟩:=x;obtain⟨cF,F⟩:=h;obtain⟨pp,c,hv,_⟩:=y;subst hv;show xs.length≤_;rcases open_ints z he hc F with⟨j,J⟩|⟨a,len,cap,zs,j,hb,K,hm,G,s,hcell,hw⟩
   ·have f:Value.slice pp xs.length c=.slice none 0 0:=by simpa [Value.cells] using j
    injection f with _ u _
    rw[u];exact Nat.zero_le _
   ·have f:Value.slice pp xs.length c=.slice (some a) len cap:=by simpa [Value.cells] using j
    injection f with _ u _
    simp only[Prod.mk.injEq]at s;obtain⟨I,_⟩:=s;have hzl:zs.length=cap:=by simpa using G
    rw[I];simp only[Rows.uptoBulk];refine Nat.le_trans ?_ (Nat.le_trans (Nat.le_trans (aLL _) (Nat.le_add_right _ _)) (Nat.le_succ _));show xs.length≤(List.map _ (List.take len zs)).length;rw[List.length_map,List.length_take];omega
theorem aE7{H:Type}{enc:TypeId×Value→H}{P:Program}{W:World}:∀{ts:List TypeId} {ks:List AK} {vs:List Value} {ds:List (DataW H)} {p:List MemPlace} {avs:List AV},AKs P ts ks→aE1 ks avs→jX (aC2 W) (avs.map AV.vp) vs→DataW.TrodAll enc P W 0 (fun _=>true) true ts vs ds p→aDg avs≤Rows.uptoBulkAll ds
 |[],[],vs,ds,p,[],_,_,_,h=>Nat.zero_le _
 |t::ts,k::ks,vs,ds,p,a::avs,e,f,j,h=>by
  obtain⟨v,vs',d,ds',q,r,rfl,rfl,rfl,s,u⟩:=trodAll_cons h;have x:=aJY e.1 f.1 j.1 s;have b2:=aE7 e.2 f.2 j.2 u;simp only[Rows.uptoBulkAll,aDg];omega
 |[],[],_,_,_,_::_,_,f,_,_=>f.elim
 |_::_,_::_,_,_,_,[],_,f,_,_=>f.elim
 |[],_::_,_,_,_,_,e,_,_,_=>e.elim
 |_::_,[],_,_,_,_,e,_,_,_=>e.elim
theorem aCY{H:Type}{enc:TypeId×Value→H}{P:Program}{n:Nat}{f:Func}{s:ChangeSpec}{apart fresh:Bool}{ts:List TypeId}{ks:List AK}{tb:TypeId}(hp:f.params=ts.toArray)(G:AKs P ts ks)
  (hlaw:∀avs,aE1 ks avs→aDg avs≤1048576→Ct P n (avs.map AV.vp) (.vc (pB true)))(hv:s.vars=[])(hr:f.resultTypes=#[tb])(htb:P.underlying tb=some .bool)
  (hfn:∀ds:List (DataW H),ds.length=ts.length→s.fn H (ds++[])={results:=[.lit (.bool true)],args:=ds})
  {W:World}{base:Nat}{args:Array Value}{ds gs:List (DataW H)}{before:List MemPlace}(hval:∀(j:Nat) t v,f.params[j]?=some t→args[j]?=some v→Value.okWide P W .any base t v)
  (I:DataW.Whole enc P f.params.toList s.vars apart W args.toList ds gs before)(hu:Rows.uptoSmall H (ds++gs)=true):
  Calls P n args W fun e W'=>∃v,e=.returned v∧s.post enc P f apart fresh false false W args v W':=by
 have k:=I;obtain⟨p,q,u,J,rfl,hfz,hnd⟩:=I;rw[hv]at J;obtain⟨rfl,rfl⟩:=trodVars_none J;rw[hp]at u hval;obtain⟨avs,a1,a2,a3,a4⟩:=aEQ G (fun j t v K y=>hval j t v (by simpa using K) (by simpa using y)) u;have hb:=aE7 G a1 a2 u;have z:Rows.uptoBulkAll (ds++[])≤1048576:=of_decide_eq_true hu;rw[List.append_nil]at z;have c:=hlaw avs a1 (by omega);refine(c.run (aC2 W) W args (fun b o h=>h) (by simp) (by simp) a2).mono fun e W' h=>?_
 obtain⟨v,M',Ho,qq,⟨rfl,rfl⟩,rfl,hst,L⟩:=h;have F:v=.bool true:=L;subst F;have hkeep:∀b,b<W.heap.size→W'.heap[b]?=W.heap[b]?:=fun b hb=>hst.keep b hb (by simp)
 refine⟨_,rfl,aKq (tb:=tb) k hv hr htb (hfn ds a3) (fun sp hsp=>?_) ⟨hst.os,hst.tape,hst.output,hst.size,hkeep⟩⟩;rw[hp];have:=a4 W' sp hkeep (fun x O=>hsp x (by simpa using O));simpa using this
/-- The facts, numbered. -/
def jF(P:Program)(f:FuncId)(fn:Func)(s:ChangeSpec)(c:OpenClaim):Nat→Bool
 |0=>c.wf (OpenSpec.ofChange s)
 |1=>laidOutB P
 |2=>mapsRowed P
 |3=>fn.params.all (P.readableRec ·)
 |4=>namedTie P c.named s.vars
 |5=>c.stops==[]
 |6=>P.stops==[]
 |7=>c.knobs==[]
 |8=>P.stopKnobs==[]
 |9=>c.inPlace==P.inPlace f
 |10=>c.unfollowed==P.unfollowed f
 |11=>c.recurses==P.recurses f
 |12=>c.named==P.varsNamed f
 |13=>c.maps==(fn.params.toList++s.plain.varTypes P).any (P.mapsRec ·)
 |14=>c.ifaces==(fn.params.toList++s.plain.varTypes P).any (P.ifacesRec ·)
 |15=>c.mapsOut==P.mapsAmong fn.resultTypes.toList
 |16=>c.loops==(fn.params.toList++s.plain.varTypes P).any (P.loopsFrom ·)
 |17=>c.wideKeys==(fn.params.toList++s.plain.varTypes P++fn.resultTypes.toList).any (P.wideKeysFrom ·)
 |18=>s.vars.all (P.varReadable ·)
 |19=>fn.resultTypes.all (fun t=>P.readableRec t&&decide (t<P.types.size))
 |20=>c.ifacesOut==fn.resultTypes.toList.any (P.ifacesRec ·)
 |21=>c.loopsOut==fn.resultTypes.toList.any (P.loopsFrom ·)
 |22=>c.plainKeys==P.plainKeys
 |23=>c.shortTexts.isNone
 |24=>P.stopsHeard
 |25=>P.mayEnter
 |26=>c.lifted==P.liftsFinal
 |27=>P.make==some c.make
 |28=>c.kinds==(if c.domain.isEmpty then [] else fn.params.toList.map fun t=>match P.underlying t with|some (.int k)=>some k|_=>none)
 |29=>c.pinned==c.pinnedBy
 |30=>c.veiled==(fn.params.toList++s.plain.varTypes P++fn.resultTypes.toList).any (P.veiledRec ·)
 |31=>c.veiledFits P fn.params.toList (fn.params.toList++s.plain.varTypes P++fn.resultTypes.toList)
 |_=>true
theorem aHc{P:Program}{f:FuncId}{fn:Func}{s:ChangeSpec}{c:OpenClaim}(h:∀i,i<32→jF P f fn s c i=true):joinedFacts P f fn s c=true:=by
 unfold joinedFacts;simp only[Bool.and_eq_true];exact⟨⟨⟨⟨⟨⟨⟨⟨⟨⟨⟨⟨⟨⟨⟨⟨⟨⟨⟨⟨⟨⟨⟨⟨⟨⟨⟨⟨⟨⟨⟨h 0 (by decide),h 1 (by decide)⟩,h 2 (by decide)⟩,h 3 (by decide)⟩,h 4 (by decide)⟩,h 5 (by decide)⟩,h 6 (by decide)⟩,h 7 (by decide)⟩,h 8 (by decide)⟩,h 9 (by decide)⟩,h 10 (by decide)⟩,h 11 (by decide)⟩,h 12 (by decide)⟩,h 13 (by decide)⟩,h 14 (by decide)⟩,h 15 (by decide)⟩,h 16 (by decide)⟩,h 17 (by decide)⟩,h 18 (by decide)⟩,h 19 (by decide)⟩,h 20 (by decide)⟩,h 21 (by decide)⟩,h 22 (by decide)⟩,h 23 (by decide)⟩,h 24 (by decide)⟩,h 25 (by decide)⟩,h 26 (by decide)⟩,h 27 (by decide)⟩,h 28 (by decide)⟩,h 29 (by decide)⟩,h 30 (by decide)⟩,h 31 (by decide)⟩
theorem jM{φ:Nat→Prop}{n:Nat}(h:φ n)(k:∀i,i<n→φ i):∀i,i<n+1→φ i:=fun i f=>by
 by_cases e:i=n
 ·rw[e];exact h
 ·exact k i (by omega)
open Rat
def aAO(a b:Rat):Option Int:=bif qs a&&qs b then some (if a<b then -1 else if b<a then 1 else 0) else none
theorem aIV(x y:Int)(e:x<0)(f:y<0):uP (y.natAbs:Int) (x.natAbs:Int)=uP x y:=by
 unfold uP;by_cases a:x<y
 ·rw[if_pos a,if_pos (by omega)]
 ·rw[if_neg a,if_neg (by omega)];by_cases b:y<x
  ·rw[if_pos b,if_pos (by omega)]
  ·rw[if_neg b,if_neg (by omega)]
theorem aB7{x y:Int}(j:dl x.natAbs≤9000000000000)(k:dl y.natAbs≤9000000000000):Ev (fun K=>kN K (Z x) (Z y)) (uP x y):=by
 have dx:=bT x.natAbs;have dy:=bT y.natAbs;have tx:=oJ x.natAbs;have ty:=oJ y.natAbs;unfold kN;simp only[Z_d,sW];by_cases f:x<0
 ·by_cases e:y<0
  ·simp only[dT f,dT e,bne_self_eq_false,eD,d9];have h:=vH dy dx ty tx (by show dl _≤_;omega);rw[dX,dX,aIV x y f e]at h;exact Ev.bind h (Ev.pure _)
  ·simp only[dT f,dF e,Bool.bne_false,d9];unfold uP;rw[if_pos (by omega)];exact Ev.pure _
 ·by_cases e:y<0
  ·simp only[dF f,dT e,Bool.bne_true,Bool.not_false,d9,eD];unfold uP;rw[if_neg (by omega),if_pos (by omega)];exact Ev.pure _
  ·simp only[dF f,dF e,bne_self_eq_false,eD];have h:=vH dx dy tx ty (by show dl _≤_;omega);rw[dX,dX,show((x.natAbs:Nat):Int)=x by omega,show((y.natAbs:Nat):Int)=y by omega]at h;exact Ev.bind h (Ev.pure _)
theorem aHp(a b:Rat):(if a<b then -1 else if b<a then 1 else 0:Int)=uP (a.num*b.den) (b.num*a.den):=by
 unfold uP;simp only[Rat.lt_iff]
theorem aCA(u v:Int)(p q:Nat)(hp:0<p)(j:0<q)(h:u.sign≠v.sign∨u=0∧v=0):uP u.sign v.sign=uP (u*q) (v*p):=by
 have key:∀(w:Int) (n:Nat),0<n→(w<0∧w.sign=-1∧w*n<0)∨(w=0∧w.sign=0∧w*n=0)∨(0<w∧w.sign=1∧0<w*n):=fun w n k=>by
  rcases Int.lt_trichotomy w 0 with hw|hw|hw
  ·exact .inl ⟨hw,Int.sign_eq_neg_one_of_neg hw,Int.mul_neg_of_neg_of_pos hw (by omega)⟩
  ·exact .inr (.inl ⟨hw,by rw[hw];rfl,by rw[hw,Int.zero_mul]⟩)
  ·exact .inr (.inr ⟨hw,Int.sign_eq_one_of_pos hw,Int.mul_pos hw (by omega)⟩)
 unfold uP;rcases key u q j with⟨_,e,f⟩|⟨_,e,f⟩|⟨_,e,f⟩<;>rcases key v p hp with⟨_,f1,f2⟩|⟨_,f1,f2⟩|⟨_,f1,f2⟩<;>rw[e,f1]at h<;>rw[e,f1]<;>(repeat' split)<;>omega
theorem aGk(u:Int):-9223372036854775808≤u.sign∧u.sign≤9223372036854775807∧dl u.sign.natAbs≤1:=by
 have e:dl 1=1:=dl1;have f:dl 0=0:=uH;rcases Int.lt_trichotomy u 0 with hw|hw|hw
 ·rw[Int.sign_eq_neg_one_of_neg hw];exact⟨by omega,by omega,by show dl 1≤1;omega⟩
 ·rw[hw];exact⟨by decide,by decide,by show dl 0≤1;omega⟩
 ·rw[Int.sign_eq_one_of_pos hw];exact⟨by omega,by omega,by show dl 1≤1;omega⟩
theorem aEG{a b:Rat}(j:qs a=true)(hb:qs b=true):Ev (fun K=>tF K (Qr a) (Qr b)) (if a<b then -1 else if b<a then 1 else 0):=by
 obtain⟨a1,a2⟩:=xW j;obtain⟨k,b2⟩:=xW hb;obtain⟨c1,q,s⟩:=aC7 j hb;obtain⟨s1,s2,t⟩:=aGk a.num;obtain⟨t1,t2,t3⟩:=aGk b.num;have ad:=a.den_pos;have bd:=b.den_pos;rw[aHp];unfold tF;simp only[aEX,oB,aCL ⟨s1,s2⟩,aCL ⟨t1,t2⟩];by_cases h:a.num.sign=b.num.sign
 ·simp only[nF h,eD];by_cases f:a.num.sign=0
  ·simp only[qT f,d9];have e:=aCA a.num b.num a.den b.den ad bd (.inr ⟨Int.sign_eq_zero_iff_zero.1 f,Int.sign_eq_zero_iff_zero.1 (h▸f)⟩);rw[←e];exact Ev.bind (aB7 (by omega) (by omega)) (Ev.pure _)
  ·simp only[qF f,eD,aA0,oB,Qp];exact Ev.bind (vM (by simp;omega)) (Ev.bind (vM (by simp;omega)) (Ev.bind (aB7 (by omega) (by omega)) (Ev.pure _)))
 ·simp only[nT h,d9];rw[←aCA a.num b.num a.den b.den ad bd (.inl h)];exact Ev.bind (aB7 (by omega) (by omega)) (Ev.pure _)
theorem iJ{a b:Rat}{r:Int}(h:aAO a b=some r):Ct Tryz.prog aCQ [.va (eQ a),.va (eQ b)] (.vc (pI .i64 r)):=by
 obtain⟨e,f,rfl⟩:=aA9 h;obtain⟨K,j⟩:=(aEG e f).get;exact aB4 j
/-- The parts of a loop's record that stay. -/
structure LX where
 fn:FuncId
 tmps:Array Value
 ps:Array Tmp
 asg:Code
 bd:Code
 D:Nat
def LX.at(x:LX)(st:LoopState)(pe:Option Code):Loop:={state:=st,pending:=pe,fn:=x.fn,tmps:=x.tmps,params:=x.ps,assign:=x.asg,body:=x.bd,defers:=x.D}
def rcS(x:LX)(jump:Nat→Code):Nat→Obj
 |0=>.loop (x.at .ready none)
 |j+1=>.loop (x.at .done (some (jump j)))
def rcB(x:LX):Obj:=.loop (x.at .busy none)
theorem aAM(x:LX)(jump:Nat→Code)(j:Nat):∃r,rcS x jump j=.loop r:=by cases j<;>exact⟨_,rfl⟩
def pY(l:Nat):CP:=⟨fun _ v=>v=.func (.yield l) #[] #[],fun _ h=>h,fun h=>by subst h;rfl⟩
def iE.less(M:iE)(l:Nat):iE:=fun b=>if b=l then none else M b
def iE.more(M:iE)(l:Nat)(o:Obj):iE:=fun b=>if b=l then some o else M b
theorem uC(M:iE)(l:Nat):M.less l l=none:=if_pos rfl
theorem y6(M:iE)(l:Nat)(o:Obj):M.more l o l=some o:=if_pos rfl
theorem wR{M:iE}{l b:Nat}(h:b≠l):M.less l b=M b:=if_neg h
theorem y7{M:iE}{l b:Nat}{o:Obj}(h:b≠l):M.more l o b=M b:=if_neg h
theorem aDC{M:iE}{l:Nat}{r:Loop}(h:M l=some (.loop r)):mlc M (M.less l):=fun b i v hv=>by
 unfold sY at hv ⊢;by_cases e:b=l
 ·subst e;rw[h]at hv;cases hv
 ·rw[wR e];exact hv
theorem yG{M:iE}{l:Nat}{o:Obj}(h:M l=none):l5 M (M.more l o):=fun b f hb=>by
 by_cases e:b=l
 ·subst e;rw[h]at hb;cases hb
 ·rw[y7 e];exact hb
theorem jX.monoc{M M':iE}(hm:mlc M M'):∀{ps:List VP} {vs:List Value},jX M ps vs→jX M' ps vs
 |[],[],_=>trivial
 |_::_,_::_,h=>⟨VP.monoc hm h.1,jX.monoc hm h.2⟩
 |[],_::_,h=>h.elim
 |_::_,[],h=>h.elim
theorem HA.ok.notin{e:HA}{M:iE}{w:World}{l:Nat}{o:Obj}(h:e.ok M w)(f:M l=some o):e.β≠some l:=fun e=>by
 have:=h.2 l e;rw[f]at this;cases this
theorem HA.ok.less{e:HA}{M:iE}{w:World}{l:Nat}{r:Loop}(h:e.ok M w)(f:M l=some (.loop r)):e.ok (M.less l) w:=by
 obtain⟨⟨vs,how,hall⟩,j⟩:=h;refine⟨⟨vs,how,hall.monoc (aDC f)⟩,fun b hb=>?_⟩;by_cases e:b=l
 ·rw[e];exact uC M l
 ·rw[wR e];exact j b hb
theorem St.less{S:Sx}{M:iE}{w:World}{H:List HA}{l:Nat}{r:Loop}(h:St S M w H)(f:M l=some (.loop r))(j:S.M0 l=none)(hB:l∈S.B):St S (M.less l) w H:=by
 refine⟨fun b o hb=>?_,fun b o hb=>?_,h.keep,fun b hb hnb=>?_,h.size,h.os,h.tape,h.output,fun e he=>(h.own e he).less f,h.fresh,h.nodup⟩
 ·by_cases e:b=l
  ·subst e;rw[j]at hb;cases hb
  ·rw[wR e];exact h.le0 b o hb
 ·by_cases e:b=l
  ·subst e;rw[uC]at hb;cases hb
  ·rw[wR e]at hb;exact h.mem b o hb
 ·rw[wR (fun e=>by subst e;exact hnb hB)];exact h.new b hb hnb
theorem St.more{S:Sx}{M:iE}{w:World}{H:List HA}{l:Nat}{o:Obj}(h:St S M w H)(f:M l=none)(hw:w.heap[l]?=some o)(hB:l∈S.B∨S.w0.heap.size≤l)(hH:∀e∈H,e.β≠some l):St S (M.more l o) w H:=by
 refine⟨h.le0.trans (yG f),fun b k hb=>?_,h.keep,fun b hb hnb=>?_,h.size,h.os,h.tape,h.output,fun e he=>?_,h.fresh,h.nodup⟩
 ·by_cases e:b=l
  ·subst e;rw[y6]at hb;cases hb;exact hw
  ·rw[y7 e]at hb;exact h.mem b k hb
 ·rw[y7 (fun e=>by
   rcases hB with j|j
   ·subst e;exact hnb j
   ·omega)]
  exact h.new b hb hnb
 ·obtain⟨⟨vs,how,hall⟩,q⟩:=h.own e he;exact⟨⟨vs,how,hall.mono (yG f)⟩,fun b hb=>by rw[y7 (fun x=>by subst x;exact hH e he hb)];exact q b hb⟩
theorem St.turn{S:Sx}{M:iE}{w:World}{H:List HA}{l:Nat}(o:Obj)(h:St S M w H)(j:M l=none)(hB:l∈S.B∨S.w0.heap.size≤l)(hH:∀e∈H,e.β≠some l):St S M (w.putObj l o) H:=by
 refine⟨h.le0,fun b k hb=>?_,fun b hb hnb=>?_,h.new,by simpa using h.size,h.os,h.tape,h.output,fun e he=>?_,h.fresh,h.nodup⟩
 ·rw[World.putObj_heap_other (fun e=>by subst e;rw[j]at hb;cases hb)];exact h.mem b k hb
 ·rw[World.putObj_heap_other (fun e=>by
   rcases hB with f|f
   ·subst e;exact hnb f
   ·omega)]
  exact h.keep b hb hnb
 ·obtain⟨⟨vs,how,hall⟩,q⟩:=h.own e he;exact⟨⟨vs,yY how fun b hb=>World.putObj_heap_other (fun x=>by subst x;exact hH e he hb),hall⟩,q⟩
theorem St.callB{S:Sx}{M M':iE}{w w':World}{H Hin Hr Ho:List HA}{is js:List Nat}(h:St S M w H)(G:dS H is=some Hin)(u:dS H js=some Hr)(I:(is++js).Nodup)
  {P:Program}{N:NX}{B:List Nat}(k:St ⟨P,w,M,B,N⟩ M' w' Ho)(hB:∀b∈B,b∈Hin.filterMap HA.β∨((b∈S.B∨S.w0.heap.size≤b)∧∀e∈H,e.β≠some b)):St S M' w' (Ho++Hr):=by
 have hin:∀e∈Hin,e∈H:=fun e he=>by
  obtain⟨j,hje⟩:=List.getElem?_of_mem he;obtain⟨i,_,q⟩:=kI G j e hje;exact List.mem_of_getElem? q
 have hrm:∀e∈Hr,e∈H:=fun e he=>by
  obtain⟨j,hje⟩:=List.getElem?_of_mem he;obtain⟨i,_,q⟩:=kI u j e hje;exact List.mem_of_getElem? q
 have s:∀b,b∈B→S.w0.heap.size≤b∨b∈S.B:=fun b hb=>by
  rcases hB b hb with hb|hb
  ·obtain⟨e,he,heb⟩:=List.mem_filterMap.1 hb;exact h.fresh e (hin e he) b heb
  ·exact hb.1.symm
 have hdis:∀e∈Hr,∀b,e.β=some b→b∉B:=fun e he b hb hm=>by
  rcases hB b hm with hm|hm
  ·obtain⟨x,z,hxb⟩:=List.mem_filterMap.1 hm;obtain⟨j1,f⟩:=List.getElem?_of_mem he;obtain⟨j2,F⟩:=List.getElem?_of_mem z;obtain⟨i1,K,g1⟩:=kI u j1 e f;obtain⟨i2,L,O⟩:=kI G j2 x F;have:=uE h.nodup g1 O hb hxb;subst this;exact(List.nodup_append.1 I).2.2 i1 (List.mem_of_getElem? L) i1 (List.mem_of_getElem? K) rfl
  ·exact hm.2 e (hrm e he) hb
 have hlt:∀e∈Hr,∀b,e.β=some b→b<w.heap.size:=fun e he b hb=>(h.own e (hrm e he)).lt hb
 have hr:St S M w Hr:=h.pick u (List.nodup_append.1 I).2.1;refine⟨h.le0.trans k.le0,k.mem,fun b hb hnb=>?_,fun b hb hnb=>?_,Nat.le_trans h.size k.size,k.os.trans h.os,k.tape.trans h.tape,k.output.trans h.output,fun e he=>?_,fun e he b hb=>?_,?_⟩
 ·rw[k.keep b (Nat.lt_of_lt_of_le hb h.size) (fun hm=>by rcases s b hm with f|f;omega;exact hnb f)];exact h.keep b hb hnb
 ·rw[k.new b (Nat.lt_of_lt_of_le hb h.size) (fun hm=>by rcases s b hm with f|f;omega;exact hnb f)];exact h.new b hb hnb
 ·rcases List.mem_append.1 he with he|he
  ·exact k.own e he
  ·obtain⟨⟨vs,how,hall⟩,hnone⟩:=hr.own e he;refine⟨⟨vs,yY how (fun b hb=>k.keep b (hlt e he b hb) (hdis e he b hb)),bC.mono k.le0 hall⟩,fun b hb=>?_⟩;rw[k.new b (hlt e he b hb) (hdis e he b hb)];exact hnone b hb
 ·rcases List.mem_append.1 he with he|he
  ·rcases k.fresh e he b hb with f|f
   ·exact .inl (Nat.le_trans h.size f)
   ·exact s b f
  ·exact hr.fresh e he b hb
 ·rw[List.filterMap_append];refine List.nodup_append.2 ⟨k.nodup,hr.nodup,fun x z y U hxy=>?_⟩;subst hxy;obtain⟨e,he,heb⟩:=List.mem_filterMap.1 z;obtain⟨J,t,heb'⟩:=List.mem_filterMap.1 U;rcases k.fresh e he x heb with f|f
  ·have F:=hlt J t x heb';exact absurd f (by simpa using F)
  ·exact hdis J t x heb' f
def RdP(P:Program)(w:World)(M:iE)(B:List Nat)(l:Nat)(x:LX)(jump:Nat→Code)(post:Nat→List HA→Prop)(w':World)(j:Nat):Prop:=
 ∃M' Ho,post j Ho∧w'.heap[l]?=some (rcS x jump j)∧St ⟨P,w,M,l::B,0⟩ M' w' Ho∧M' l=none∧∀e∈Ho,e.β≠some l
structure CtY (P:Program) (l:Nat) (x:LX) (jump:Nat→Code) (Mb:iE) (Hin:List HA) (pre:List VP) (post:Nat→List HA→Prop):Prop where
 run:∀M w (args:Array Value),mlc Mb M→Mok M w→(∀e∈Hin,e.ok M w)→(Hin.filterMap HA.β).Nodup→jX M pre args.toList→w.heap[l]?=some (rcS x jump 0)→M l=none→(∀e∈Hin,e.β≠some l)→
  YieldAt Fence.wide 0 P l args w fun e w'=>∃j,e=.returned (.bool (Nat.beq j 0))∧RdP P w M (Hin.filterMap HA.β) l x jump post w' j
section
variable {S:Sx} {κ:Kt} {H H':List HA} {E:nV} {ops:Array Oper} {rest:List Oper} {o:Oper}
abbrev Sx.rc (S:Sx) (l:Nat) (o:Obj):Sx:=⟨S.P,S.w0,S.M0,S.B,⟨S.N.n,S.N.fr,S.N.rd,some (l,o)⟩⟩
theorem St.reS{S:Sx}{M:iE}{w:World}{H:List HA}(h:St S M w H)(N:NX):St ⟨S.P,S.w0,S.M0,S.B,N⟩ M w H:=
 ⟨h.le0,h.mem,h.keep,h.new,h.size,h.os,h.tape,h.output,h.own,h.fresh,h.nodup⟩
theorem aMm{l d:Nat}{x:LX}{jump:Nat→Code}{Hin Hr:List HA}{post:Nat→List HA→Prop}{a:Act}{w w':World}{M:iE}{j:Nat}(is js:List Nat)(hrc:S.N.rc=some (l,rcS x jump 0))(hlB:l∈S.B)(F:S.M0 l=none)
  (G:dS H is=some Hin)(z:dS H js=some Hr)(I:(is++js).Nodup)(hst:St S M w H)(hsat:Sat S.N M a E)(J:o.dst=some d)(K:Nat.blt d S.N=true)(hr:RdP S.P w (M.less l) (Hin.filterMap HA.β) l x jump post w' j):
  ∃Ho,post j Ho∧hs (S.rc l (rcS x jump j)) (Ho++Hr) ((d,.vc (pB (Nat.beq j 0)))::E) (a.put o.dst (.bool (Nat.beq j 0))) w':=by
 obtain⟨M',Ho,hp,f,hst',hno,h⟩:=hr;have hM:M l=some (rcS x jump 0):=hsat.defers.2.2 l _ hrc;obtain⟨V,q⟩:=aAM x jump 0;rw[q]at hM;have hH:∀e∈H,e.β≠some l:=fun e he=>(hst.own e he).notin hM
 have hless:=hst.less hM F hlB;have hcall:=hless.callB (is:=is) (js:=js) G z I hst' fun b hb=>by
  rcases List.mem_cons.1 hb with rfl|hb
  ·exact .inr ⟨.inl hlB,hH⟩
  ·exact .inl hb
 have s:∀e∈Ho++Hr,e.β≠some l:=fun e he=>by
  rcases List.mem_append.1 he with he|he
  ·exact h e he
  ·obtain⟨k,L⟩:=List.getElem?_of_mem he;obtain⟨i,_,O⟩:=kI z k e L;exact hH e (List.mem_of_getElem? O)
 have hfin:=hcall.more hno f (.inl hlB) s;have hmc:mlc M (M'.more l (rcS x jump j)):=(aDC hM).trans (hst'.le0.trans (yG hno)).c;have hne:∀b ob,M b=some ob→b≠l→M'.more l (rcS x jump j) b=some ob:=fun b ob hb e=>by
  rw[y7 e];exact hst'.le0 b ob (by show M.less l b=_;rw[wR e];exact hb)
 refine⟨Ho,hp,_,hfin.reS _,?_⟩;rw[J];refine Sat.put (N:=(S.rc l (rcS x jump j)).N) ⟨hsat.size,⟨fun dd hdd=>?_,hsat.defers.2.1,fun l' o' e=>?_⟩,fun d p U=>?_⟩ K rfl
 ·obtain⟨D,t,u,y⟩:=hsat.defers.1 dd hdd;exact⟨D,t,u,hne D _ y fun e=>by subst e;rw[hM]at y;cases y⟩
 ·simp only[Option.some.injEq,Prod.mk.injEq]at e;obtain⟨rfl,rfl⟩:=e;exact y6 _ _ _
 ·obtain⟨v,t,u⟩:=hsat.get d p U;exact⟨v,t,VP.monoc hmc u⟩
theorem aKo{l:Nat}{x:LX}{jump:Nat→Code}{Mb:iE}{Hin:List HA}{pre:List VP}{post:Nat→List HA→Prop}{xs:List Operand}{y:Operand}{ts:Array TypeId}{a:Act}{w:World}{M:iE}{K:Act→World→Prop}{Q:Exit→Act→World→Prop}(is:List Nat)(z:o.op=.call {callee:=.value y,args:=xs.toArray,argTypes:=ts})(c:CtY S.P l x jump Mb Hin pre post)(hrc:S.N.rc=some (l,rcS x jump 0))(G:S.M0 l=none)(hlB:l∈S.B)(q:mlc Mb S.M0)
  (I:dS H is=some Hin)(J:is.Nodup)(hst:St S M w H)(hsat:Sat S.N M a E)(L:tH E ((y,.vc (pY l))::xs.zip pre))(O:xs.length=pre.length)
  (k:∀j w',RdP S.P w (M.less l) (Hin.filterMap HA.β) l x jump post w' j→K (a.put o.dst (.bool (Nat.beq j 0))) w'):o.wpIn S.F 0 S.P a w K Q:=by
 have hins:=tH.ins hsat L;have hall:=jX.of_ins O hins.2;have U:a.eval y=.func (.yield l) #[] #[]:=hins.1;have hM:M l=some (rcS x jump 0):=hsat.defers.2.2 l _ hrc;obtain⟨r0,s⟩:=aAM x jump 0;have f:=hM;rw[s]at f;have hin:=hst.pick I J;have hmc:=aDC f;obtain⟨fn,tm,asg,bd,t,u⟩:=c.run (M.less l) w (xs.map a.eval).toArray ((q.trans hst.le0.c).trans hmc) (hst.less f G hlB).mem (fun e he=>(hin.own e he).less f) hin.nodup (by simpa using hall.monoc hmc) (hst.mem l _ hM) (uC M l) (fun e he=>(hin.own e he).notin f);have V:(execOp a.eval o).run S.P w=.ok (.round l fn tm asg bd) w:=by
  simp[execOp,z,resolve,Deferred.ofValue,U,invoke,t]
 refine⟨fun _ _=>trivial,?_⟩;rw[aAz _ V (fun d h=>by cases h)];refine⟨fun h=>by simp[Fence.wide]at h,RoundIn.mono (F:=Fw S.N.rd) u fun e w' h=>?_⟩;obtain⟨j,rfl,hp⟩:=h;exact k j w' hp
theorem aLM{l d jg dj:Nat}{bg:Bool}{og:Oper}{x:LX}{jump:Nat→Code}{Mb:iE}{Hin Hr:List HA}{pre:List VP}{post:Nat→List HA→Prop}{xs:List Operand}{y:Operand}{ts:Array TypeId}(is js:List Nat)(t:o.op=.call {callee:=.value y,args:=xs.toArray,argTypes:=ts})(c:CtY S.P l x jump Mb Hin pre post)(h:S.M0 l=none)(f:mlc Mb S.M0)(u:tH E ((y,.vc (pY l))::xs.zip pre))(k:dS H is=some Hin)(z:dS H js=some Hr)
  (k0:∀Ho,post 0 Ho→WL S ops κ rest (Ho++Hr) ((d,.vc (pB true))::E))(F:∀j Ho,post (j+1) Ho→WL (S.rc l (rcS x jump (j+1))) ops κ rest (Ho++Hr) ((d,.vc (pB false))::E))
  (q:(is++js).Nodup:=by decide)(hrc:S.N.rc=some (l,rcS x jump 0):=by rfl)(hlB:l∈S.B:=by exact List.mem_cons_self)(G:xs.length=pre.length:=by rfl)(I:o.dst=some d:=by rfl)(J:o.guard=some (jg,bg):=by rfl)(L:ops[jg]?=some og:=by rfl)(hdj:og.dst=some dj:=by rfl)(hlk:iQ E dj=some (.vc (pB bg)):=by rfl)(O:Nat.blt d S.N=true:=by rfl):WL S ops κ (o::rest) H E:=by
 rintro a w ⟨M,hst,hsat⟩;refine wpListIn_step fun K s=>?_
 rw[if_pos (by simp[Region.wanted,J,aAg hsat L hdj hlk])];refine aKo is t c hrc h hlB f k (List.nodup_append.1 q).1 hst hsat u G fun j w' hr=>?_
 obtain⟨Ho,hp,hh⟩:=aMm is js hrc hlB h k z q hst hsat I O hr;cases j with
 |zero=>
  refine s _ _ (k0 Ho hp _ _ ?_);have e:S.rc l (rcS x jump 0)=S:=by
   cases S with|mk P w0 M0 B N=>cases N with|mk n fr rd rc=>cases hrc;rfl
  rw[e]at hh;exact hh
 |succ j=>exact s _ _ (F j Ho hp _ _ hh)
end
structure CtI (P:Program) (f l:Nat) (x:LX) (jump:Nat→Code) (Mb:iE) (Hin:List HA) (pre:List VP) (post:Nat→List HA→Prop):Prop where
 ok:aLZ P f
 run:∀M w (args:Array Value),mlc Mb M→Mok M w→(∀e∈Hin,e.ok M w)→(Hin.filterMap HA.β).Nodup→jX M pre args.toList→w.heap[l]?=some (rcS x jump 0)→M l=none→(∀e∈Hin,e.β≠some l)→
  Calls P f args w fun e w'=>∃v j,e=.returned v∧RdP P w M (Hin.filterMap HA.β) l x jump post w' j
def RpI(P:Program)(w0:World)(M0:iE)(B:List Nat)(l:Nat)(x:LX)(jump:Nat→Code)(post:Nat→List HA→Prop):Ending→World→Prop:=fun e w'=>∃v j,e=.returned v∧RdP P w0 M0 B l x jump post w' j
theorem aG4{P:Program}{f l:Nat}{x:LX}{jump:Nat→Code}{Mb:iE}{fn:Func}{c:Code}{Hin:List HA}{pre:List VP}{post:Nat→List HA→Prop}{N:Nat}(t:P.funcs[f]?=some fn)(hb:fn.body=some c)(hname:(fn.name== "runtime.NumGoroutine")=false)(u:fn.ntmps=N)(hpre:Nat.ble pre.length N=true)
  (h:∀w0 M0,M0 l=none→mlc Mb M0→WC ⟨P,w0,M0,l::Hin.filterMap HA.β,⟨N,fun D=>w0.heap.size≤D∧M0 D=none,none,some (l,rcS x jump 0)⟩⟩ c (.base (aCK P fn (RpI P w0 M0 (Hin.filterMap HA.β) l x jump post))) Hin (aBk 0 pre)):CtI P f l x jump Mb Hin pre post:=by
 refine⟨⟨fn,t,hname,by simp[hb]⟩,fun M w args k hm hown hnd hall y j hH=>(callsIn_wide (n:=0)).1 (callsIn_of_wp_marks t hb trivial (h w M j k _ w ⟨M.more l (rcS x jump 0),?_,?_⟩))⟩
 ·refine St.more (S:=⟨P,w,M,l::Hin.filterMap HA.β,_⟩) ⟨l5.refl M,hm,fun _ _ _=>rfl,fun _ _ _=>rfl,Nat.le_refl _,rfl,rfl,rfl,hown,fun e he b q=>.inr (List.mem_cons_of_mem _ (List.mem_filterMap.2 ⟨e,he,q⟩)),hnd⟩ j y (.inl List.mem_cons_self) hH
 ·have hln:=hall.len;have hle:pre.length≤N:=by simpa using hpre
  refine⟨?_,⟨fun d s=>(by cases s),List.nodup_nil,fun l' o e=>?_⟩,fun d p s=>?_⟩
  ·subst u;simp only[Array.length_toList]at hln;simp;omega
  ·simp only[Option.some.injEq,Prod.mk.injEq]at e;obtain⟨rfl,rfl⟩:=e;exact y6 _ _ _
  ·obtain⟨_,hp⟩:=aAe pre 0 d p s;obtain⟨v,hv,hpv⟩:=hall.at d (by simpa using hp);refine⟨v,?_,VP.mono (yG j) hpv⟩;have hdl:d<args.size:=by
    have:=(List.getElem?_eq_some_iff.1 hv).1;simpa using this
   rw[Array.getElem?_append_left hdl];simpa using hv
section
variable {H:List HA} {E:nV}
theorem aLJ{P:Program}{w0:World}{M0:iE}{B:List Nat}{N:NX}{l:Nat}{x:LX}{jump:Nat→Code}{post:Nat→List HA→Prop}{j:Nat}{M:iE}{w:World}{Ho:List HA}(h:St ⟨P,w0,M0,l::B,N⟩ M w Ho)(hM:M l=some (rcS x jump j))(q:M0 l=none)(hp:post j Ho):RdP P w0 M0 B l x jump post w j:=by
 obtain⟨s,k⟩:=aAM x jump j;have f:=hM;rw[k]at f;exact⟨M.less l,Ho,hp,h.mem l _ hM,(h.less f q List.mem_cons_self).reS 0,uC M l,fun e he=>(h.own e he).notin f⟩
theorem aGI{P:Program}{fn:Func}{w0:World}{M0:iE}{B:List Nat}{l:Nat}{x:LX}{jump:Nat→Code}{post:Nat→List HA→Prop}{N:NX}{e:Exit}{Ho:List HA}(j:Nat)(he:e=.ret∨e=.normal)(hrs:fn.results=#[])(s:M0 l=none)(cX:∀M w,St ⟨P,w0,M0,l::B,N⟩ M w H→St ⟨P,w0,M0,l::B,N⟩ M w Ho)(hpost:post j Ho)(hrc:N.rc=some (l,rcS x jump j):=by rfl)(hfr:∀D,N.fr D→w0.heap.size≤D∧M0 D=none:=by exact fun _ h=>h):
  WX ⟨P,w0,M0,l::B,N⟩ e (.base (aCK P fn (RpI P w0 M0 B l x jump post))) H E:=by
 rintro a w ⟨M,t,f⟩;have hM:M l=some (rcS x jump j):=f.defers.2.2 l _ hrc;have key:LeavesInM Fence.wide 0 P fn a.tmps (RpI P w0 M0 B l x jump post) a.defers .returning w:=by
  refine yA (S:=⟨P,w0,M0,l::B,N⟩) a.defers M w t (fun d u=>?_) f.defers.2.1 fun M' w' hmd k=>?_
  ·obtain⟨D,y,z,F⟩:=f.defers.1 d u;exact⟨D,y,hfr D z,F⟩
  have hres:(results fn a.tmps).run P w'=.ok (.tuple #[]) w':=by
   have e:results fn a.tmps=(do let vs ←fn.results.mapM (aB9 a.tmps);pure (if h:vs.size=1 then vs[0] else .tuple vs)):=rfl;rw[e,hrs];simp
  refine⟨_,hres,_,j,rfl,aLJ (cX _ _ k) (hmd l _ hM fun ds=>?_) s hpost⟩;obtain⟨G,q⟩:=aAM x jump j;rw[q];simp
 rcases he with rfl|rfl<;>exact key
theorem aA6{S:Sx}{R Ho:List HA}(m:Nat)(is:List Nat)(e:H.drop m=R)(hp:dS (H.take m) is=some Ho)(f:is.Nodup:=by decide):∀M w,St S M w H→St S M w (Ho++R):=fun M w h=>by
 rw[←List.take_append_drop m H,e]at h;exact h.split hp f
def TE(n:Nat)(E:nV)(Mb:iE)(tmps:Array Value):Prop:=tmps.size=n∧∀d p,iQ E d=some p→∃v,tmps[d]?=some v∧p.h Mb v
def RpR(P:Program)(w0:World)(M0:iE)(B:List Nat)(l:Nat)(x:LX)(jump:Nat→Code)(post:Nat→List HA→Prop):Ending→World→Prop:=fun e w'=>∃j,e=.returned (.bool (Nat.beq j 0))∧RdP P w0 M0 B l x jump post w' j
def Qas(P:Program)(l:Nat)(body:Code)(R:Ending→World→Prop):Exit→Act→World→Prop:=
 Exit.then (fun a₁ w₁=>∃w₂,(Instr.beginRound l).run P w₁=.ok () w₂∧body.wpIn (Fw (some l)) 0 P (roundPost P l R) a₁ w₂) (fun _ _ _=>False)
theorem aHv{P:Program}{l n t:Nat}{x:LX}{jump:Nat→Code}{Mb:iE}{Hin:List HA}{p:VP}{post:Nat→List HA→Prop}(y:TE n E Mb x.tmps)(hps:x.ps=#[t])(F:Nat.blt t n=true)
  (h:∀w0 M0,M0 l=none→mlc Mb M0→WC ⟨P,w0,M0,l::Hin.filterMap HA.β,⟨n,fun _=>False,some l,some (l,rcS x jump 0)⟩⟩ x.asg (.base (Qas P l x.bd (RpR P w0 M0 (Hin.filterMap HA.β) l x jump post))) Hin ((t,p)::E)):CtY P l x jump Mb Hin [p] post:=by
 refine⟨fun M w args j hm hown hnd hall z f hH=>?_⟩;obtain⟨v,rfl⟩:∃v,args=#[v]:=by
  have hln:=hall.len
  match args,hln with
  |⟨[v]⟩,_=>exact⟨v,rfl⟩
 have hv:p.h M v:=hall.1;have G:=run_yield (P:=P) (args:=#[v]) (r:=x.at .ready none) z (by show 1=x.ps.size;rw[hps];rfl);refine⟨_,_,_,_,G,roundIn_of_wpIn trivial ?_⟩;refine h w M f j _ w ⟨M.more l (rcS x jump 0),?_,?_⟩
 ·exact St.more (S:=⟨P,w,M,l::Hin.filterMap HA.β,_⟩) ⟨l5.refl M,hm,fun _ _ _=>rfl,fun _ _ _=>rfl,Nat.le_refl _,rfl,rfl,rfl,hown,fun e he b k=>.inr (List.mem_cons_of_mem _ (List.mem_filterMap.2 ⟨e,he,k⟩)),hnd⟩ f z (.inl List.mem_cons_self) hH
 ·have hmc:mlc Mb (M.more l (rcS x jump 0)):=j.trans (yG f).c;have htm:(((x.at .ready none).params.zip #[v]).foldl (fun t (p,v)=>t.setIfInBounds p v) (x.at .ready none).tmps)=x.tmps.setIfInBounds t v:=by
   show((x.ps.zip #[v]).foldl _ x.tmps)=_;rw[hps];simp
  have I:Sat ⟨n,fun _=>False,some l,some (l,rcS x jump 0)⟩ (M.more l (rcS x jump 0)) {tmps:=x.tmps,defers:=[]} E:=
   ⟨y.1,⟨fun d s=>(by cases s),List.nodup_nil,fun l' o e=>by
    simp only[Option.some.injEq,Prod.mk.injEq]at e;obtain⟨rfl,rfl⟩:=e;exact y6 _ _ _⟩,fun d q s=>let ⟨u,J,K⟩:=y.2 d q s;⟨u,J,VP.monoc hmc K⟩⟩
  have L:=I.put (d:=t) (v:=v) (p:=p) F (VP.mono (yG f) hv);show Sat _ _ {tmps:=_,defers:=[]} _;rw[htm];exact L
theorem aJ2{P:Program}{w0:World}{M0:iE}{B:List Nat}{n l:Nat}{fr:Nat→Prop}{x:LX}{jump:Nat→Code}{R:Ending→World→Prop}{body:Code}(u:M0 l=none)
  (h:WC ⟨P,w0,M0,l::B,⟨n,fr,some l,some (l,rcB x)⟩⟩ body (.base (roundPost P l R)) H E):WX ⟨P,w0,M0,l::B,⟨n,fr,some l,some (l,rcS x jump 0)⟩⟩ .normal (.base (Qas P l body R)) H E:=by
 rintro a w ⟨M,j,f⟩;have hM:M l=some (.loop (x.at .ready none)):=f.defers.2.2 l _ rfl;have hH:∀e∈H,e.β≠some l:=fun e he=>(j.own e he).notin hM
 have hlt:=(Array.getElem?_eq_some_iff.1 (j.mem l _ hM)).1;refine⟨w.putObj l (rcB x),run_beginRound (j.mem l _ hM) rfl,h a _ ⟨(M.less l).more l (rcB x),?_,?_⟩⟩
 ·exact((((j.less hM u List.mem_cons_self).turn (rcB x) (uC M l) (.inl List.mem_cons_self) hH).more (uC M l) (World.putObj_heap_same hlt) (.inl List.mem_cons_self) hH)).reS _
 ·have hmc:mlc M ((M.less l).more l (rcB x)):=(aDC hM).trans (yG (uC M l)).c;refine⟨f.size,⟨fun d k=>?_,f.defers.2.1,fun l' o e=>?_⟩,fun d p k=>let ⟨v,q,s⟩:=f.get d p k;⟨v,q,VP.monoc hmc s⟩⟩
  ·obtain⟨D,q,s,t⟩:=f.defers.1 d k;have hne:D≠l:=fun e=>by subst e;rw[hM]at t;cases t
   exact⟨D,q,s,by rw[y7 hne,wR hne];exact t⟩
  ·simp only[Option.some.injEq,Prod.mk.injEq]at e;obtain⟨rfl,rfl⟩:=e;exact y6 _ _ _
theorem aIh{P:Program}{w0:World}{M0:iE}{B:List Nat}{N:NX}{l:Nat}{x:LX}{jump:Nat→Code}{post:Nat→List HA→Prop}{M:iE}{w:World}{Ho:List HA}(j:Nat)(h:St ⟨P,w0,M0,l::B,N⟩ M w Ho)(hM:M l=some (rcB x))(f:M0 l=none)(hp:post j Ho):RdP P w0 M0 B l x jump post (w.putObj l (rcS x jump j)) j:=by
 have hH:∀e∈Ho,e.β≠some l:=fun e he=>(h.own e he).notin hM
 have hlt:=(Array.getElem?_eq_some_iff.1 (h.mem l _ hM)).1;exact⟨M.less l,Ho,hp,World.putObj_heap_same hlt,((h.less hM f List.mem_cons_self).turn _ (uC M l) (.inl List.mem_cons_self) hH).reS 0,uC M l,hH⟩
theorem aNQ{P:Program}{w0:World}{M0:iE}{B:List Nat}{N:NX}{l:Nat}{x:LX}{jump:Nat→Code}{post:Nat→List HA→Prop}{Ho:List HA}(j:Nat)(f:jump j=.ret)(h:M0 l=none)(cX:∀M w,St ⟨P,w0,M0,l::B,N⟩ M w H→St ⟨P,w0,M0,l::B,N⟩ M w Ho)(hpost:post (j+1) Ho)(hrc:N.rc=some (l,rcB x):=by rfl):WX ⟨P,w0,M0,l::B,N⟩ .ret (.base (roundPost P l (RpR P w0 M0 B l x jump post))) H E:=by
 rintro a w ⟨M,e,k⟩;have hM:=k.defers.2.2 l _ hrc;have:=aIh (jump:=jump) (j+1) (cX _ _ e) hM h hpost;refine⟨_,_,run_endRound (some .ret) (e.mem l _ hM),j+1,rfl,?_⟩;rw[←f];exact this
theorem aMW{P:Program}{w0:World}{M0:iE}{B:List Nat}{N:NX}{l id:Nat}{x:LX}{jump:Nat→Code}{post:Nat→List HA→Prop}{Ho:List HA}(j:Nat)(f:jump j=.exit id)(h:M0 l=none)(cX:∀M w,St ⟨P,w0,M0,l::B,N⟩ M w H→St ⟨P,w0,M0,l::B,N⟩ M w Ho)(hpost:post (j+1) Ho)(hrc:N.rc=some (l,rcB x):=by rfl):WX ⟨P,w0,M0,l::B,N⟩ (.exit id) (.base (roundPost P l (RpR P w0 M0 B l x jump post))) H E:=by
 rintro a w ⟨M,e,k⟩;have hM:=k.defers.2.2 l _ hrc;have:=aIh (jump:=jump) (j+1) (cX _ _ e) hM h hpost;refine⟨_,_,run_endRound (some (.exit id)) (e.mem l _ hM),j+1,rfl,?_⟩;rw[←f];exact this
end
section
variable {S:Sx} {κ:Kt} {H:List HA} {E:nV}
theorem aHQ{rd:Option Nat}{n:Nat}{P:Program}{f:Nat}{args:Array Value}{w:World}{R:Ending→World→Prop}(h:Calls P f args w R):CallsIn (Fw rd) n P f args w R:=(callsIn_wide (n:=n)).2 h
theorem aFy(w:World)(o:Obj)(i:Nat)(h:i<w.heap.size):(w.alloc o).heap[i]?=w.heap[i]?:=by
 show(w.heap.push o)[i]?=w.heap[i]?;rw[Array.getElem?_push,if_neg (Nat.ne_of_lt h)]
theorem aKx{D l:Nat}{w x J:World}{M M':iE}{a:Act}{Hin Hr Ho:List HA}{is js:List Nat}(hDe:D=w.heap.size)(hle:l=w.heap.size+1)(hsz:x.heap.size=w.heap.size+2)(hst:St S M w H)(y:St S M x H)(hsat:Sat S.N M a E)(h1:dS H is=some Hin)(K:dS H js=some Hr)(hn:(is++js).Nodup)(q:M D=none)(z:∀e∈H,∀b,e.β=some b→b<w.heap.size)
  (f:St ⟨S.P,x,M,l::Hin.filterMap HA.β,0⟩ M' J Ho)(hno:M' l=none)(O:∀e∈Ho,e.β≠some l)(U:x.heap[D]?=some (.deferred (some [])))(hrc:S.N.rc=none)(hfr:∀D,S.w0.heap.size≤D∧S.M0 D=none→S.N.fr D):∀V,hs S (Ho++Hr) E {a with defers:=[{target:=.collected D,args:=#[]}]++a.defers} (J.putObj l V):=by
 have hmem:∀{L:List Nat} {X:List HA},dS H L=some X→∀e∈X,e∈H:=fun hp e he=>by
  obtain⟨j,hj⟩:=List.getElem?_of_mem he;obtain⟨i,_,hi⟩:=kI hp j e hj;exact List.mem_of_getElem? hi
 have hlH:∀e∈H,e.β≠some l:=fun e he hb=>by have:=z e he l hb;omega
 have F:∀e∈H,e.β≠some D:=fun e he hb=>by have:=z e he D hb;omega
 have hc:=y.callB (is:=is) (js:=js) h1 K hn f fun b hb=>by
  rcases List.mem_cons.1 hb with rfl|hb
  ·exact .inr ⟨.inr (by have:=hst.size;omega),hlH⟩
  ·exact .inl hb
 have s:D∉l::Hin.filterMap HA.β:=fun hb=>by
  rcases List.mem_cons.1 hb with h|h
  ·omega
  ·obtain⟨e,he,heb⟩:=List.mem_filterMap.1 h;exact F e (hmem h1 e he) heb
 have k:D<x.heap.size:=by omega
 have G:∀b,(b=l∨b=D)→∀e∈Ho++Hr,e.β≠some b:=fun b hb e he=>by
  rcases List.mem_append.1 he with he|he
  ·rcases hb with rfl|rfl
   ·exact O e he
   ·intro heb;rcases f.fresh e he _ heb with h|h
    ·exact absurd h (Nat.not_le.2 k)
    ·exact s h
  ·rcases hb with rfl|rfl
   ·exact hlH e (hmem K e he)
   ·exact F e (hmem K e he)
 have hMD':M' D=none:=(f.new D k s).trans q;have hD2:J.heap[D]?=some (.deferred (some [])):=(f.keep D k s).trans U;have hne:D≠l:=by omega
 intro V;have t1:=hc.turn V hno (.inr (by have:=hst.size;omega)) (G l (.inl rfl));have t2:=t1.more hMD' ((World.putObj_heap_other hne).trans hD2) (.inr (by have:=hst.size;omega)) (G D (.inr rfl));have hmm:l5 M (M'.more D (.deferred (some []))):=f.le0.trans (yG hMD');refine⟨_,t2,hsat.size,⟨fun d t=>?_,?_,fun l' o' e=>by rw[hrc]at e;cases e⟩,fun d p t=>let ⟨v,u,e2⟩:=hsat.get d p t;⟨v,u,VP.mono hmm e2⟩⟩
 ·rcases List.mem_cons.1 t with rfl|t
  ·refine⟨D,rfl,hfr D ⟨by have:=hst.size;omega,?_⟩,y6 _ _ _⟩;cases h0:S.M0 D with
   |none=>rfl
   |some ob=>have:=hst.le0 D ob h0;rw[q]at this;cases this
  ·obtain⟨D',u,e2,I⟩:=hsat.defers.1 d t;exact⟨D',u,e2,hmm _ _ I⟩
 ·refine List.nodup_cons.2 ⟨fun t=>?_,hsat.defers.2.1⟩;obtain⟨D',u,_,I⟩:=hsat.defers.1 _ t;simp only[Deferred.mk.injEq,Target.collected.injEq,and_true]at u;rw[←u,q]at I;cases I
theorem aNt{g gf:Nat}{ps:Array Tmp}{assign body:Code}{cs:List CP}{Hin Hr:List HA}{jump:Nat→Code}{post:Nat→List HA→Prop}(is js:List Nat)(hg:iQ E g=some (.vc (pF gf cs)))(I:dS H is=some Hin)(h2:dS H js=some Hr)
  (hit:∀(x:LX) (l:Nat) (Mb:iE),x.ps=ps→x.asg=assign→x.bd=body→TE S.N.n E Mb x.tmps→CtI S.P gf l x jump Mb Hin (.vc (pY l)::cs.map .vc) post)
  (knext:∀Ho,post 0 Ho→WX S .normal κ (Ho++Hr) E)(kstop:∀j Ho,post (j+1) Ho→WC S (jump j) κ (Ho++Hr) E)
  (hn:(is++js).Nodup:=by decide)(hrd:S.N.rd=none:=by rfl)(hrc:S.N.rc=none:=by rfl)(hfr:∀D,S.w0.heap.size≤D∧S.M0 D=none→S.N.fr D:=by exact fun _ h=>h):WC S (.rangeFunc (.tmp g) ps assign body) κ H E:=by
 rintro a w ⟨M,hst,hsat⟩;refine wpIn_rangeFunc fun fn _=>?_
 have hround:S.F.round=none:=hrd;rw[hround];obtain⟨gv,hgv,vs,hgf,hvs⟩:=hsat.get g _ hg;obtain⟨D,t⟩:∃D,D=w.heap.size:=⟨_,rfl⟩;obtain⟨l,hle⟩:∃l,l=w.heap.size+1:=⟨_,rfl⟩;obtain⟨x,J,K,O,u,U⟩:∃x:LX,x.ps=ps∧x.asg=assign∧x.bd=body∧x.tmps=a.tmps∧x.at .ready none={state:=.ready,pending:=none,fn,tmps:=a.tmps,params:=ps,assign,body,defers:=w.heap.size}:=⟨⟨fn,a.tmps,ps,assign,body,w.heap.size⟩,rfl,rfl,rfl,rfl,rfl⟩;obtain⟨q,f⟩:∃q,q=(w.alloc (.deferred (some []))).alloc (.loop (x.at .ready none)):=⟨_,rfl⟩;have V:M D=none:=hst.mem.none (by omega);have hMl:M l=none:=hst.mem.none (by omega);have hsz:q.heap.size=w.heap.size+2:=by rw[f];simp
 have hold:∀k,k<w.heap.size→q.heap[k]?=w.heap[k]?:=fun k hk=>by
  rw[f];exact(aFy _ _ k (by simp;omega)).trans (aFy _ _ k hk)
 have hgr:w.grownBy q none:=⟨by rw[f];rfl,by rw[f];rfl,by rw[f];rfl,by omega,fun k hk _=>hold k hk⟩;have hL1:q.heap[l]?=some (rcS x jump 0):=by
  rw[f,hle];have:=World.alloc_heap_new (w.alloc (.deferred (some []))) (.loop (x.at .ready none))
  rwa [World.size_alloc]at this
 have hD1:q.heap[D]?=some (.deferred (some [])):=by
  rw[f,t];exact(aFy _ _ _ (by simp)).trans (World.alloc_heap_new w _)
 have hown:∀e∈H,e.ok M q:=fun e he=>(hst.own e he).kept hgr (fun b _=>by simp)
 have s:St S M q H:=⟨hst.le0,fun b o hb=>by rw[hold b (hst.mem.lt hb)];exact hst.mem b o hb,fun b hb hnb=>by rw[hold b (Nat.lt_of_lt_of_le hb hst.size)];exact hst.keep b hb hnb,hst.new,Nat.le_trans hst.size hgr.size,hgr.os.trans hst.os,hgr.tape.trans hst.tape,hgr.output.trans hst.output,hown,hst.fresh,hst.nodup⟩;have hin:=s.pick I (List.nodup_append.1 hn).1;have y:∀e∈H,∀b,e.β=some b→b<w.heap.size:=fun e he b hb=>(hst.own e he).lt hb
 have hmem:∀{L:List Nat} {X:List HA},dS H L=some X→∀e∈X,e∈H:=fun hp e he=>by
  obtain⟨j,hj⟩:=List.getElem?_of_mem he;obtain⟨i,_,hi⟩:=kI hp j e hj;exact List.mem_of_getElem? hi
 have hit':=hit x l M J K O ⟨by rw[u];exact hsat.size,by rw[u];exact hsat.get⟩;have hAl:jX M (.vc (pY l)::cs.map .vc) (#[Value.func (.yield l) #[] #[]]++vs.toArray).toList:=by
  have e:(#[Value.func (.yield l) #[] #[]]++vs.toArray).toList=.func (.yield l) #[] #[]::vs:=by simp
  rw[e];exact⟨rfl,jX.of_all2 hvs⟩
 have hcall:=hit'.run M q (#[.func (.yield l) #[] #[]]++vs.toArray) (l5.refl M).c s.mem hin.own hin.nodup hAl hL1 hMl (fun e he hb=>by have:=y e (hmem I e he) l hb;omega);have hev:a.eval (.tmp g)=.func (.func gf) #[] vs.toArray:=by
  subst hgf;simp[Act.eval,hgv]
 have henter:(Instr.enterLoop fn a.tmps ps assign body none).run S.P w=.ok (l,[{target:=.collected D,args:=#[]}]) q:=by
  rw[f,hle,t,U];exact run_enterLoop_outer fn a.tmps ps assign body
 refine⟨l,[{target:=.collected D,args:=#[]}],q,{target:=.fn (.func gf) vs.toArray,args:=#[.func (.yield l) #[] #[]]},q,gf,#[.func (.yield l) #[] #[]]++vs.toArray,q,henter,?_,fun _ _=>trivial,?_,fun h=>by simp[Fence.wide]at h,?_⟩
 ·simp only[resolve,hev];simp[go_sem]
 ·simp[invoke,go_sem,lT hit'.ok]
 ·refine aHQ (hcall.mono fun e w2 hr=>?_);obtain⟨v,j,rfl,M',Ho,hp,z,G,hno,hHo⟩:=hr;have cX:=aKx (is:=is) (js:=js) (S:=S) (E:=E) t hle hsz hst s hsat I h2 hn V y (G.reN S.P 0) hno hHo hD1 hrc hfr;cases j with
  |zero=>exact⟨none,_,run_endLoop z (by simp[LX.at]),knext Ho hp _ _ (cX _)⟩
  |succ j=>exact⟨some (jump j),_,run_endLoop z (by simp[LX.at]),kstop j Ho hp _ _ (cX _)⟩
theorem aMB{g gf:Nat}{ps:Array Tmp}{assign body:Code}{cs:List CP}(jump:Nat→Code){post:Nat→List HA→Prop}(e:iQ E g=some (.vc (pF gf cs)))
  (hit:∀(x:LX) (l:Nat) (Mb:iE),x.ps=ps→x.asg=assign→x.bd=body→TE S.N.n E Mb x.tmps→CtI S.P gf l x jump Mb H (.vc (pY l)::cs.map .vc) post)
  (knext:∀Ho,post 0 Ho→WX S .normal κ Ho E)(kstop:∀j Ho,post (j+1) Ho→WC S (jump j) κ Ho E)
  (hrd:S.N.rd=none:=by rfl)(hrc:S.N.rc=none:=by rfl)(hfr:∀D,S.w0.heap.size≤D∧S.M0 D=none→S.N.fr D:=by exact fun _ h=>h):WC S (.rangeFunc (.tmp g) ps assign body) κ H E:=
 aNt (List.range' 0 H.length) [] e (wM H) rfl hit (fun Ho h=>by rw[List.append_nil];exact knext Ho h) (fun j Ho h=>by rw[List.append_nil];exact kstop j Ho h) (by simpa using List.nodup_range' (s:=0) (n:=H.length)) hrd hrc hfr
theorem aMk{c:Code}{X R:List HA}(m:Nat)(is:List Nat)(f:H.drop m=R)(hp:dS (H.take m) is=some X)(k:WC S c κ (X++R) E)(h:is.Nodup:=by decide):WC S c κ H E:=fun a w ⟨M,e,j⟩=>k a w ⟨M,by
 rw[←List.take_append_drop m H,f]at e;exact e.split hp h,j⟩
end
section
variable {S:Sx} {κ:Kt} {H H':List HA} {E:nV} {ops:Array Oper} {rest:List Oper} {o:Oper}
theorem aJU{l d jg dj:Nat}{bg:Bool}{og:Oper}{x:LX}{jump:Nat→Code}{Mb:iE}{pre:List VP}{post:Nat→List HA→Prop}{xs:List Operand}{y:Operand}{ts:Array TypeId}(f:o.op=.call {callee:=.value y,args:=xs.toArray,argTypes:=ts})(c:CtY S.P l x jump Mb H pre post)(k:S.M0 l=none)(e:mlc Mb S.M0)(q:tH E ((y,.vc (pY l))::xs.zip pre))
  (k0:∀Ho,post 0 Ho→WL S ops κ rest Ho ((d,.vc (pB true))::E))(t:∀j Ho,post (j+1) Ho→WL (S.rc l (rcS x jump (j+1))) ops κ rest Ho ((d,.vc (pB false))::E))
  (hrc:S.N.rc=some (l,rcS x jump 0):=by rfl)(hlB:l∈S.B:=by exact List.mem_cons_self)(u:xs.length=pre.length:=by rfl)(z:o.dst=some d:=by rfl)(F:o.guard=some (jg,bg):=by rfl)(G:ops[jg]?=some og:=by rfl)(hdj:og.dst=some dj:=by rfl)(hlk:iQ E dj=some (.vc (pB bg)):=by rfl)(I:Nat.blt d S.N=true:=by rfl):WL S ops κ (o::rest) H E:=
 aLM (List.range' 0 H.length) [] f c k e q (wM H) rfl (fun Ho h=>by rw[List.append_nil];exact k0 Ho h) (fun j Ho h=>by rw[List.append_nil];exact t j Ho h) (by simpa using List.nodup_range' (s:=0) (n:=H.length)) hrc hlB u z F G hdj hlk I
theorem aNL{α:Type}{C:Cd α}{T:Nat}{X X' A:List HA}{gs:List sF}{rs:List (List α)}{r:List α}{g:sF}{Post:Option Nat→Nat→List HA}{ins:List (Operand×VP)}{out:Option Nat→Nat→VP}(i:Nat)(f:X[i]?=some (hO C g.1 g.2.2 T g.2.1 r))(j:xO X i=some X')(k:iA gs rs)
  (t:Hv S o ((X'++lD C T (gs++[g]) (rs++[r]))++A) Post ins out):Hv S o ((X++lD C T gs rs)++A) Post ins out:=
 ⟨fun M w a h hin K Q q=>t.run M w a (h.perm (by
  rw[aEF g r k.1,vO j,←List.append_assoc];have hlt:=(List.getElem?_eq_some_iff.1 f).1;have e:=(List.getElem?_eq_some_iff.1 f).2;have s:(X.eraseIdx i++[hO C g.1 g.2.2 T g.2.1 r]).Perm X:=by
   refine List.perm_append_comm.trans ?_;rw[←e];exact aB2 _ _ hlt
  refine List.Perm.append_right A (List.Perm.trans ?_ (s.append_right (lD C T gs rs)));rw[List.append_assoc,List.append_assoc];exact List.perm_append_comm.append_left _)) hin K Q q⟩
theorem Sat.fz{N:NX}{M M0:iE}{a:Act}{E:nV}{α:Type}{C:Cd α}{xs:List α}{β:Option Nat}{n c:Nat}(h:Sat N M a E)(j:∀v,(pO β n c).h M0 v→(pS C xs).h M v):∀{ds:List Nat},aEk E (.vc (pO β n c)) ds→Sat N M a (ds.map (fun d=>(d,VP.vc (pS C xs)))++E)
 |[],_=>h
 |d::ds,k=>by
  have ih:=h.fz j k.2;refine⟨ih.size,ih.defers,fun x p f=>?_⟩;simp only[List.map_cons,List.cons_append,iQ]at f;by_cases e:d=x
  ·subst e;simp only[Nat.beq_refl,cond_true,Option.some.injEq]at f;subst f;obtain⟨v,hv,hp⟩:=h.get d _ k.1;exact⟨v,hv,j v hp⟩
  ·rw[vW e]at f;exact ih.get x p f
theorem aJg{α:Type}{C:Cd α}{xs:List α}{β:Option Nat}{c T n:Nat}(i k off:Nat)(ds:List Nat){eb:HA}{ps':List CP}{H1 H2:List HA}(hi:H[i]?=some (hO C β c T n xs))(hn:xs.length=n)(hL:xs.length≤xM)
  (O:H[k]?=some eb)(hne:Nat.beq i k=false)(hp:eb.ps[off]?=some (pO β n c))(hps:tM eb.ps off [pS C xs]=some ps')(h1:vC H k {eb with ps:=ps'}=some H1)(h2:xO H1 i=some H2)(hds:aEk E (.vc (pO β n c)) ds){a:Act}{w:World}(h:hs S H E a w):hs S H2 (ds.map (fun d=>(d,VP.vc (pS C xs)))++E) a w:=by
 obtain⟨M,hst,hsat⟩:=h;subst hn;have hik:i≠k:=fun e=>by subst e;simp at hne
 obtain⟨hle,f⟩:=hst.freeze hi (fun _ _=>.inr trivial);have hebm:=List.mem_of_getElem? O;have hbok:=hst.own _ hebm;obtain⟨⟨us,hou,hau⟩,hnu⟩:=hbok;obtain⟨v,hv,hpv⟩:=hau.at off hp;obtain⟨⟨vs,how,hall⟩,_⟩:=hst.own _ (List.mem_of_getElem? hi);have I:∀v,(pO β xs.length c).h M v→(pS C xs).h (frz M w β) v:=by
  intro v hpv;rcases hpv with U|⟨_,h0,_,a0,rfl⟩
  rotate_left
  ·have z:xs=[]:=List.eq_nil_of_length_eq_zero h0;subst z;exact⟨_,_,rfl,by simp,by simp,fun j x s=>by simp at s⟩
  subst U;rcases how.2 with⟨L,h4⟩|⟨g,cap,cur,L,_,hg,hnc,_,hsz,htake⟩
  ·have z:xs=[]:=List.eq_nil_of_length_eq_zero h4;subst z;exact⟨_,_,rfl,by simp,by simp,fun j x s=>by simp at s⟩
  ·cases β with
   |none=>simp[sv]at L
   |some b=>
    simp only[sv,Option.map_some,Value.slice.injEq,Option.some.injEq,Addr.mk.injEq,and_true,true_and]at L;obtain⟨rfl,rfl⟩:=L;refine⟨_,_,rfl,hL,hnc,fun j x s=>⟨b,0,rfl,?_⟩⟩;refine⟨(vs.drop (j*C.n)).take C.n,?_,fun t u F=>?_⟩
    ·have:=((bC.mono hle hall).drop (j*C.n)).take C.n
     rwa [yZ C xs j x s]at this
    ·have hM:frz M w (some b) b=some (.cells cur T (0,0)):=by simp[frz,hg]
     rw[List.getElem?_take]at F;split at F
     ·rename_i htn;rw[List.getElem?_drop]at F;simp only[sY,hM,Nat.zero_add];rw[←htake,List.getElem?_take]at F;split at F
      ·simpa using F
      ·cases F
     ·cases F
 have hS:=I v hpv;have hvs:us.set off v=us:=by
  apply List.ext_getElem?;intro j;rw[List.getElem?_set];split
  ·rename_i e;subst e;split
   ·exact hv.symm
   ·rename_i hlt;simp[List.getElem?_eq_none (Nat.not_lt.1 hlt)]
  ·rfl
 have J:bC (frz M w β) ps' us:=by
  have:=aCv (us:=[v]) hps (bC.mono hle hau) ⟨hS,trivial⟩;have hoff:off<us.length:=(List.getElem?_eq_some_iff.1 hv).1;have e:us.take off++[v]++us.drop (off+[v].length)=us.set off v:=by
   rw[List.set_eq_take_append_cons_drop,if_pos hoff];simp
  rw[e,hvs]at this;exact this
 refine⟨_,?_,Sat.fz (hsat.mono hle) I hds⟩;rw[vO h2,zC h1];have hget:∀(j:Nat),((H.set k {eb with ps:=ps'}).eraseIdx i)[j]?=if j<i then(H.set k {eb with ps:=ps'})[j]? else(H.set k {eb with ps:=ps'})[j+1]?:=fun j=>by rw[List.getElem?_eraseIdx]
 have hmap:∀(j:Nat) x,((H.set k {eb with ps:=ps'}).eraseIdx i)[j]?=some x→∃y,(H.eraseIdx i)[j]?=some y∧x.β=y.β∧(x.ok (frz M w β) w):=by
  intro j x z;have G:∃K,K≠i∧(H.set k {eb with ps:=ps'})[K]?=some x∧(H.eraseIdx i)[j]?=H[K]?:=by
   rw[hget]at z;by_cases s:j<i
   ·rw[if_pos s]at z;exact⟨j,by omega,z,by rw[List.getElem?_eraseIdx,if_pos s]⟩
   ·rw[if_neg s]at z;exact⟨j+1,by omega,z,by rw[List.getElem?_eraseIdx,if_neg s]⟩
  obtain⟨K,hne',q,he⟩:=G;rw[List.getElem?_set]at q;by_cases hkj:k=K
  ·subst hkj;rw[if_pos rfl]at q;split at q
   ·simp only[Option.some.injEq]at q;subst q;refine⟨eb,by rw[he,O],rfl,⟨us,hou,J⟩,fun b hb=>?_⟩;exact(f.own eb (List.mem_of_getElem? (by rw[he,O]))).2 b hb
   ·cases q
  ·rw[if_neg hkj]at q;exact⟨x,by rw[he,q],rfl,f.own x (List.mem_of_getElem? (by rw[he,q]))⟩
 refine⟨f.le0,f.mem,f.keep,f.new,f.size,f.os,f.tape,f.output,fun x z=>?_,fun x z b hb=>?_,tI fun {j l x y b} s hl z V=>?_⟩
 ·obtain⟨j,s⟩:=List.getElem?_of_mem z;obtain⟨y,_,_,hok⟩:=hmap j x s;exact hok
 ·obtain⟨j,s⟩:=List.getElem?_of_mem z;obtain⟨y,V,hb',_⟩:=hmap j x s;exact f.fresh y (List.mem_of_getElem? V) b (hb'▸hb)
 ·obtain⟨x',G,e1,_⟩:=hmap j x s;obtain⟨y',hy',e2,_⟩:=hmap l y hl;exact uE f.nodup G hy' (e1▸z) (e2▸V)
theorem aIy{α:Type}{C:Cd α}{xs:List α}{β:Option Nat}{c T n:Nat}(i k off:Nat)(ds:List Nat){eb:HA}{ps':List CP}{H1 e:List HA}(f:H[i]?=some (hO C β c T n xs))(h:xs.length=n)(j:H[k]?=some eb)(hp:eb.ps[off]?=some (pO β n c))(hps:tM eb.ps off [pS C xs]=some ps')(q:vC H k {eb with ps:=ps'}=some H1)(s:xO H1 i=some e)(hds:aEk E (.vc (pO β n c)) ds)(kk:WL S ops κ rest e (ds.map (fun d=>(d,VP.vc (pS C xs)))++E))(hne:Nat.beq i k=false:=by rfl):WL S ops κ rest H E:=
 fun a w hh=>kk a w (aJg i k off ds f h (h▸aCi f hh) j hne hp hps q s hds hh)
theorem aKP{α:Type}{C:Cd α}{xs:List α}{β:Option Nat}{c T n:Nat}{cd:Code}(i k off:Nat){eb:HA}{ps':List CP}{H1 e:List HA}(f:H[i]?=some (hO C β c T n xs))(h:xs.length=n)(j:H[k]?=some eb)(hp:eb.ps[off]?=some (pO β n c))(hps:tM eb.ps off [pS C xs]=some ps')(q:vC H k ⟨eb.β,eb.c,eb.T,eb.sz,eb.n,ps'⟩=some H1)(s:xO H1 i=some e)(kk:WC S cd κ e E)(hne:Nat.beq i k=false:=by rfl):WC S cd κ H E:=
 fun a w hh=>kk a w (aH5 i k off f h (h▸aCi f hh) j hne hp hps q s hh)
theorem aB3{α:Type}{C:Cd α}{xs:List α}{β:Option Nat}{c T n:Nat}(i:Nat)(f:H[i]?=some (hO C β c T n xs))(e:xs.length=n):∀M w,St S M w H→∃Mb,l5 M Mb∧Mok Mb w∧∀v,(pO β n c).h M v→(pS C xs).h Mb v:=fun M w h=>by
 obtain⟨M',g1,j,k⟩:=h.frzv (i:=i) f e;exact⟨M',g1,j.mem,fun v hv=>aLO e hv k⟩
def pK(e:CP)(h k0:Nat):CP:=⟨fun M v=>∃p n c,e.h M (.slice p n c)∧h≤n∧n≤c∧v=.slice (if c=0 then p else p.map (·.add (0*k0))) (h-0) (c-0),
 fun hm ⟨p,n,c,f,j⟩=>⟨p,n,c,e.monoc hm f,j⟩,fun h=>by obtain⟨p,n,c,_,_,_,rfl⟩:=h;rfl⟩
theorem aL3{t e k0 bytes n c i:Nat}{β:Option Nat}{x y:Operand}{f:Int}{k:IntKind}{ea:HA}(J:o.op=.slice t x none (some y) none)(F:TyS S.P t e k0 bytes)(hH:H[i]?=some ea)(hβ:ea.β=β)(hc:ea.c=c)(L:ea.n=n)(O:0≤f)(hl:f≤(n:Int)):
  Tr S o H H [(x,.vc (pO β n c)),(y,.vc (pI k f))] (.vc (pK (pO β n c) f.toNat k0)):=by
 refine⟨fun M w a hs hin K Q U=>?_⟩;have V:a.eval y=.int k f:=hin.2.1;obtain⟨it,hit,hk',_⟩:=F.s;obtain⟨⟨vs,how,_⟩,_⟩:=hs.own ea (List.mem_of_getElem? hH);rw[hβ,hc,L]at how;have hform:∃p cc,a.eval x=.slice p n cc∧n≤cc∧(pO β n c).h M (.slice p n cc):=by
  rcases hin.1 with q|⟨h1,z,j,G,q⟩
  ·rcases how.2 with⟨j,I⟩|⟨g,cap,cur,j,_,_,hnc,_⟩
   ·refine⟨none,0,by rw[q,j,I],by omega,.inl (by rw[j,I])⟩
   ·exact⟨some ⟨g,0,none⟩,cap,by rw[q,j],hnc,.inl j.symm⟩
  ·exact⟨some G,0,by rw[q,z],by omega,.inr ⟨h1,z,j,G,by rw[z]⟩⟩
 obtain⟨p,cc,q,hnc,hp⟩:=hform;refine bR (v:=.slice (if cc=0 then p else p.map (·.add (0*k0))) (f.toNat-0) (cc-0)) ?_ (U _ M w (l5.refl M) hs ⟨p,n,cc,hp,by omega,hnc,rfl⟩);have hb:=wW (P:=S.P) (w:=w) (k:=k) (i:=f) (y:=cc) (code:=.sliceAcap) O (by omega);simp[execOp,J,q,V,Instr.sliceAt,Instr.slice,Instr.sliceBounds,run_underlying F.u,sizeOf,typeInfo,hit,hb]
theorem aHl{α:Type}{C:Cd α}{xs zs:List α}{β:Option Nat}{c T n:Nat}{f:Int}(i:Nat)(hH:H[i]?=some (hO C β c T n xs))(j:xs.length=n)(h:xN xs 0 f=some zs):∀M w,St S M w H→∃Mb,l5 M Mb∧Mok Mb w∧∀v,(pK (pO β n c) f.toNat C.n).h M v→(pS C zs).h Mb v:=fun M w hs=>by
 obtain⟨Mb,g1,k,q⟩:=aB3 i hH j M w hs;refine⟨Mb,g1,k,fun v hv=>?_⟩;obtain⟨rfl,_,z,F⟩:=qW h;obtain⟨p,G,c',s,I,J,rfl⟩:=hv;have t:=q _ s;obtain⟨_,K,e,u,x,y⟩:=t;simp only[Value.slice.injEq]at e;obtain⟨rfl,rfl,rfl⟩:=e;exact aCf (l:=0) (h:=f.toNat) (m:=c') ⟨p,c',rfl,u,x,y⟩ (by omega) (by omega) (by omega) (Nat.le_refl _)
theorem aJ3{α:Type}{xs zs:List α}{e:Int}{n:Nat}(h:xN xs 0 e=some zs)(f:xs.length=n):e≤(n:Int):=f▸(qW h).2.2.2
def aEH(P Q:CP):List VP→List VP→Prop
 |[],[]=>True
 |p::ps,q::qs=>(p=q∨(p=.vc P∧q=.vc Q))∧aEH P Q ps qs
 |_,_=>False
theorem aEH.conv{P Q:CP}{M Mb:iE}(e:l5 M Mb)(f:∀v,P.h M v→Q.h Mb v):∀{ps qs:List VP} {vs:List Value},aEH P Q ps qs→jX M ps vs→jX Mb qs vs
 |[],[],[],_,_=>trivial
 |[],[],_::_,_,h=>h.elim
 |p::ps,q::qs,[],_,h=>h.elim
 |p::ps,q::qs,v::vs,j,h=>by
  refine⟨?_,aEH.conv e f j.2 h.2⟩;rcases j.1 with rfl|⟨rfl,rfl⟩
  ·exact VP.mono e h.1
  ·exact f v h.1
 |[],_::_,_,h,_=>h.elim
 |_::_,[],_,h,_=>h.elim
theorem aJa{P Q:CP}{pre' pre:List VP}(hlend:∀M w,St S M w H→∃Mb,l5 M Mb∧Mok Mb w∧∀v,P.h M v→Q.h Mb v)(h:aEH P Q pre' pre):∀M w,St S M w H→∃Mb,l5 M Mb∧Mok Mb w∧∀vs,jX M pre' vs→jX Mb pre vs:=fun M w hs=>by
 obtain⟨Mb,e,f,j⟩:=hlend M w hs;exact⟨Mb,e,f,fun vs hv=>h.conv e j hv⟩
section
variable {A:List HA}
theorem aDa{f:Nat}{L A j B R:List HA}{pre:List VP}{q:VP}{cs:List CP}{xs:List Operand}{y:Operand}{ts:Array TypeId}(m:Nat)(is js ks:List Nat)(u:o.op=.call {callee:=.value y,args:=xs.toArray,argTypes:=ts})(c:xD S.P f (j++R) (pre++cs.map .vc) (fun Ho p=>Ho=j++R∧p=q))(x:L.drop m=R)(z:dS (L.take m) is=some j)(F:dS (L.take m) js=some B)(G:dS (j++B) ks=some (L.take m))(I:(is++js).Nodup)(J:ks.Nodup)(O:xs.length=pre.length):
  Tr S o (L++A) (L++A) ((y,.vc (pF f cs))::xs.zip pre) q:=by
 refine⟨fun M w a h hin K Q hkk=>?_⟩;have hall:=jX.of_ins O hin.2;obtain⟨vs,U,hvs⟩:=hin.1;have V:L++A=L.take m++(R++A):=by rw[←x,←List.append_assoc,List.take_append_drop]
 rw[V]at h hkk;have g1:St S M w ((j++B)++(R++A)):=h.split (uL z F) I;have pp:List.Perm ((j++R)++(B++A)) ((j++B)++(R++A)):=by
  rw[List.append_assoc,List.append_assoc,←List.append_assoc R,←List.append_assoc B];exact((List.perm_append_comm).append_right A).append_left j
 have k:=g1.perm pp;obtain⟨s,p2,t⟩:=yC (j++R) (B++A);have gin:St S M w (j++R):=k.pick s (List.nodup_append.1 t).1;refine sD (f:=f) (args:=(xs.map a.eval++vs).toArray) ?_ (c.run M w _ k.mem gin.own gin.nodup (jX.app hall (jX.of_all2 hvs))) fun e w' hr=>?_
 ·simp[execOp,u,resolve,Deferred.ofValue,U,invoke,lT c.ok]
 ·obtain⟨v,M',Ho,q',⟨rfl,rfl⟩,rfl,hst',hq⟩:=hr;have g3:St S M' w' ((j++R)++(B++A)):=k.call s p2 t hst';exact⟨v,rfl,hkk v M' w' hst'.le0 ((g3.perm pp.symm).split G J) hq⟩
def pFB(f:Nat)(bs cs:List CP):CP:=⟨fun M v=>∃us vs:List Value,v=.func (.func f) us.toArray vs.toArray∧bC M bs us∧bC M cs vs,fun hm ⟨us,vs,e,h,k⟩=>⟨us,vs,e,bC.monoc hm h,bC.monoc hm k⟩,fun h=>by obtain⟨us,vs,rfl,_⟩:=h;rfl⟩
theorem aEv{M:iE}{a:Act}:∀{xs:List Operand} {cs:List CP},xs.length=cs.length→Ins M a (xs.zip (cs.map .vc))→bC M cs (xs.map a.eval)
 |[],[],_,_=>trivial
 |_::_,_::_,h,k=>⟨k.1,aEv (by simpa using h) k.2⟩
 |[],_::_,h,_=>by simp at h
 |_::_,[],h,_=>by simp at h
theorem aKR{f:Nat}{xs:List Operand}{bs:List CP}(e:o.op=.makeFunc (.func f) xs.toArray #[])(h:xs.length=bs.length):Tr S o H H (xs.zip (bs.map .vc)) (.vc (pFB f bs [])):=
 ⟨fun M w a hs j K Q k=>bR (v:=.func (.func f) (xs.map a.eval).toArray #[]) (by simp[execOp,e,Instr.makeFunc]) (k _ M w (l5.refl M) hs ⟨_,[],rfl,aEv h j,trivial⟩)⟩
theorem aBQ{f:Nat}{L A j B R:List HA}{pre:List VP}{q:VP}{bs cs:List CP}{xs:List Operand}{y:Operand}{ts:Array TypeId}(m:Nat)(is js ks:List Nat)(u:o.op=.call {callee:=.value y,args:=xs.toArray,argTypes:=ts})(c:xD S.P f (j++R) (bs.map .vc++(pre++cs.map .vc)) (fun Ho p=>Ho=j++R∧p=q))(x:L.drop m=R)(z:dS (L.take m) is=some j)(F:dS (L.take m) js=some B)(G:dS (j++B) ks=some (L.take m))(I:(is++js).Nodup)(J:ks.Nodup)(O:xs.length=pre.length):
  Tr S o (L++A) (L++A) ((y,.vc (pFB f bs cs))::xs.zip pre) q:=by
 refine⟨fun M w a h hin K Q hkk=>?_⟩;have hall:=jX.of_ins O hin.2;obtain⟨us,vs,U,hus,hvs⟩:=hin.1;have V:L++A=L.take m++(R++A):=by rw[←x,←List.append_assoc,List.take_append_drop]
 rw[V]at h hkk;have g1:St S M w ((j++B)++(R++A)):=h.split (uL z F) I;have pp:List.Perm ((j++R)++(B++A)) ((j++B)++(R++A)):=by
  rw[List.append_assoc,List.append_assoc,←List.append_assoc R,←List.append_assoc B];exact((List.perm_append_comm).append_right A).append_left j
 have k:=g1.perm pp;obtain⟨s,p2,t⟩:=yC (j++R) (B++A);have gin:St S M w (j++R):=k.pick s (List.nodup_append.1 t).1;refine sD (f:=f) (args:=(us++(xs.map a.eval++vs)).toArray) ?_ (c.run M w _ k.mem gin.own gin.nodup (jX.app (jX.of_all2 hus) (jX.app hall (jX.of_all2 hvs)))) fun e w' hr=>?_
 ·simp[execOp,u,resolve,Deferred.ofValue,U,invoke,lT c.ok]
 ·obtain⟨v,M',Ho,q',⟨rfl,rfl⟩,rfl,hst',hq⟩:=hr;have g3:St S M' w' ((j++R)++(B++A)):=k.call s p2 t hst';exact⟨v,rfl,hkk v M' w' hst'.le0 ((g3.perm pp.symm).split G J) hq⟩
end
end
def aHe(xs:List Int)(l:Int):List Int:=xs.take l.toNat++List.replicate (xs.length-l.toNat) 0
theorem aFq{α:Type}{xs zs:List α}{l:Int}{n:Nat}(h:xN xs l (xs.length:Int)=some zs)(e:xs.length=n):l≤(n:Int):=e▸(qW h).2.2.1
theorem aH1{α:Type}{xs zs:List α}{l:Int}{n:Nat}(h:xN xs l (xs.length:Int)=some zs)(e:xs.length=n):l.toNat≤n:=by have:=aFq h e;omega
section
variable {S:Sx} {κ:Kt} {H H':List HA} {E:nV} {ops:Array Oper} {rest:List Oper} {o:Oper}
theorem aIq{α:Type}{C:Cd α}{xs ys:List α}{t e bytes n c T:Nat}{β:Option Nat}{x y:Operand}{z:Int}{k:IntKind}(i:Nat)(ho:o.op=.slice t x none (some y) none)(ht:TyS S.P t e C.n bytes)(hH:H[i]?=some (hO C β c T n xs))(hn:xs.length=n)(h:xN xs 0 z=some ys)(O:H.set i (hO C β c T ys.length ys)=H'):
  Tr S o H H' [(x,.vc (pO β n c)),(y,.vc (pI k z))] (.vc (pO β ys.length c)):=by
 subst O;obtain⟨rfl,_,h0,hl⟩:=qW h;have hyl:(List.take (z.toNat-(0:Int).toNat) (List.drop (0:Int).toNat xs))=xs.take z.toNat:=by simp
 rw[hyl];have hlen:(xs.take z.toNat).length=z.toNat:=by rw[List.length_take];omega
 rw[hlen];obtain⟨m,rfl⟩:∃m:Nat,z=(m:Int):=⟨z.toNat,(Int.toNat_of_nonneg h0).symm⟩;simp only[Int.toNat_natCast];have hmn:m≤n:=by omega
 refine⟨fun M w a hs hin K Q hk=>?_⟩;have F:=hin.1;have hy:a.eval y=.int k (m:Int):=hin.2.1;obtain⟨it,U,hk',_⟩:=ht.s;obtain⟨⟨vs,how,hall⟩,hnone⟩:=hs.own _ (List.mem_of_getElem? hH);have hst:St S M w (H.set i (hO C β c T m (xs.take m))):=by
  refine hs.put hH (s9 w _) ⟨⟨vs.take (m*C.n),?_,by show bC M (flat C (xs.take m)) _;rw[←(aAU C xs m).1];exact hall.take _⟩,hnone⟩ (.inl rfl);have hvl:vs.length=n*C.n:=how.1;have hmc:m*C.n≤n*C.n:=Nat.mul_le_mul_right _ hmn;refine⟨by rw[List.length_take];exact Nat.min_eq_left (by omega),?_⟩;rcases how.2 with⟨J,L⟩|⟨g,cap,cur,J,L,G,V,h5,h6,h7⟩
  ·left;have j:sv β n c=.slice none 0 0:=J;have h2':n=0:=L;subst h2';have:m=0:=by omega
   subst this;exact⟨j,rfl⟩
  ·right;have j:sv β n c=.slice (some ⟨g,0,none⟩) n cap:=J;have I:n≤cap:=V;refine⟨g,cap,cur,?_,L,G,Nat.le_trans hmn I,h5,h6,?_⟩
   ·unfold sv at j ⊢;simp only[Value.slice.injEq]at j;rw[j.1,j.2.2]
   ·have h7':cur.toList.take (n*C.n)=vs:=h7;rw[←h7',List.take_take,Nat.min_eq_left hmc]
 have hform:∃p cc,a.eval x=.slice p n cc∧n≤cc∧(pO β m c).h M (.slice p m cc):=by
  rcases hin.1 with F|⟨J,L,G,a0,F⟩
  ·rcases how.2 with⟨G,V⟩|⟨g,cap,cur,G,_,_,hnc,_⟩
   ·have f:sv β n c=.slice none 0 0:=G;have I:n=0:=V;subst I;have:m=0:=by omega
    subst this;exact⟨none,0,by rw[F,f],Nat.le_refl _,.inl f.symm⟩
   ·have f:sv β n c=.slice (some ⟨g,0,none⟩) n cap:=G;refine⟨some ⟨g,0,none⟩,cap,by rw[F,f],hnc,.inl ?_⟩;unfold sv at f ⊢;simp only[Value.slice.injEq]at f;rw[f.1,f.2.2]
  ·exact⟨some a0,0,by rw[F,L],by omega,.inr ⟨J,by omega,G,a0,by rw[show m=0 by omega]⟩⟩
 obtain⟨p,cc,F,hnc,hp⟩:=hform;have hb:=wW (P:=S.P) (w:=w) (k:=k) (i:=(m:Int)) (y:=cc) (code:=.sliceAcap) h0 (by omega);simp only[Int.toNat_natCast]at hb;have hz:∀q:Addr,q.add 0=q:=fun q=>by cases q;simp[Addr.add]
 have hpp:(if cc=0 then p else p.map (·.add (0*C.n)))=p:=by
  split
  ·rfl
  ·cases p with
   |none=>rfl
   |some q=>simp[hz]
 refine bR (v:=.slice (if cc=0 then p else p.map (·.add (0*C.n))) m cc) ?_ (hk _ M w (l5.refl M) hst (by rw[hpp];exact hp));simp[execOp,ho,F,hy,Instr.sliceAt,Instr.slice,Instr.sliceBounds,run_underlying ht.u,sizeOf,typeInfo,U,hb]
theorem aIt{xs:List Int}{t e bytes n c T:Nat}{lo:Int}{β:Option Nat}{x:Operand}(i:Nat)(U:o.op=.call {callee:=.builtin .clear,args:=#[x],argTypes:=#[t]})(V:TyS S.P t e cI.n bytes)(hz:TyZ S.P e (cI.e 0))(hH:H[i]?=some (hO cI β c T n xs))(hn:xs.length=n)(s:H.set i (hO cI β c T n (aHe xs lo))=H'):
  Tr S o H H' [(x,.vc (pC (pO β n c) lo.toNat 1))] .any:=by
 unfold aHe at s;rw[hn]at s;generalize lo.toNat=l at s ⊢;subst s;refine⟨fun M w a hs hin K Q hk=>?_⟩;obtain⟨p,f,c',k,O,h3,G⟩:=hin.1;obtain⟨⟨vs,how,hall⟩,hnone⟩:=hs.own _ (List.mem_of_getElem? hH);have hnn:f=n:=by
  rcases k with k|⟨_,O,_,a0,k⟩
  ·unfold sv at k;simp only[Value.slice.injEq]at k;exact k.2.1
  ·simp only[Value.slice.injEq]at k;omega
 subst hnn;by_cases hl:f-l=0
 ·have hln:l=f:=by omega
  subst hln;have e1:xs.take l++List.replicate (l-l) (0:Int)=xs:=by rw[Nat.sub_self,List.take_of_length_le (by omega)];simp
  have hst:St S M w (H.set i (hO cI β c T l (xs.take l++List.replicate (l-l) 0))):=by
   rw[e1];exact hs.put hH (s9 w _) ⟨⟨vs,how,hall⟩,hnone⟩ (.inl rfl)
  refine bR (v:=.tuple #[]) ?_ (hk _ M w (l5.refl M) hst trivial);rw[Nat.sub_self]at G;simp only[execOp,U,resolve,invoke,builtin,Builtin.clear_];generalize(if c'=l then p else p.map (·.add (l*1)))=q at G;cases q<;>simp[G,run_underlying V.u]
 ·rcases k with k|⟨_,h5,_,a0,k⟩
  rotate_left
  ·omega
  unfold sv at k;simp only[Value.slice.injEq]at k;obtain⟨rfl,_,rfl⟩:=k;cases β with
  |none=>
   rcases how.2 with⟨k,O⟩|⟨g,cap,cur,k,_⟩
   ·have:f=0:=O;omega
   ·simp[sv]at k
  |some b=>
   have hcl:c'≠l:=by omega
   rw[if_neg hcl]at G;have I:a.eval x=.slice (some ⟨b,l,none⟩) (f-l) (c'-l):=by
    rw[G];simp[Addr.add];exact fun h=>h.symm
   have hvl:vs.length=f*1:=how.1;have how':w.ownsRow 0 T 1 (sv (some b) f c') f vs:=how;obtain⟨w',hr,J,hg⟩:=o9 (P:=S.P) l (List.replicate (f-l) (.int .i64 0)) 0 w vs how' (by rw[List.length_replicate];omega) (fun u hu=>by rw[(List.mem_replicate.1 hu).2];rfl);rw[List.length_replicate,Nat.add_zero,show l+(f-l)=f by omega,List.drop_of_length_le (by omega),List.append_nil]at J;have hok:HA.ok (hO cI (some b) c' T f (xs.take l++List.replicate (f-l) 0)) M w':=by
    refine⟨⟨_,J,?_⟩,hnone⟩;show bC M (flat cI _) _;rw[aCw];refine bC.app ?_ ?_
    ·have:=(aAU cI xs l).1;rw[←this];have h9:=hall.take (l*1);rw[Nat.mul_one]at h9;rw[show l*cI.n=l from Nat.mul_one l];exact h9
    ·generalize f-l=q
     induction q with
     |zero=>trivial
     |succ q ih=>exact⟨rfl,ih⟩
   refine bR (w':=w') (v:=.tuple #[]) ?_ (hk _ M w' (l5.refl M) (hs.put hH hg hok (.inl rfl)) trivial);obtain⟨ie,zv,hie,hze,hsz,F⟩:=hz.z;have hzv:zv.cells=#[.int .i64 0]:=by
    have y:=F M;have hl1:=y.len
    match hh:zv.cells.toList,y with
    |[],y=>exact y.elim
    |[u],y=>
     have e0:u=.int .i64 0:=y.1;subst e0;exact Array.toList_inj.1 (by rw[hh])
    |_::_::_,y=>exact y.2.elim
   have hzc:(Builtin.zeroCells zv.cells (f-l)).toList=List.replicate (f-l) (.int .i64 0):=by
    apply List.ext_getElem?;intro j;rw[hzv];simp only[Builtin.zeroCells,List.size_toArray,List.length_singleton,Nat.mul_one,Nat.mod_one,Array.toList_map,Array.toList_range,List.getElem?_map,List.getElem?_replicate];by_cases L:j<f-l
    ·rw[List.getElem?_range L,if_pos L];rfl
    ·rw[List.getElem?_eq_none (by simpa using L),if_neg L];rfl
   obtain⟨q,hq⟩:∃q,f-l=q+1:=⟨f-l-1,by omega⟩;rw[hq]at I hr hzc;simp[execOp,U,resolve,invoke,builtin,Builtin.clear_,I,run_underlying V.u,zeroValue,typeInfo,hie,hze,hzc,hr]
theorem aMA{x y:Code}(f:WC S y κ H E):WC S (.cond (.const (.bool false)) x y) κ H E:=
 fun a w hh=>wpIn_cond_split (show a.eval (.const (.bool false))=.bool false from rfl) (fun e=>by cases e) (fun _=>f a w hh)
def lt8(x:Int):Option Int:=if 0≤x∧x<16 then some (([0,1,2,2,3,3,3,3,4,4,4,4,4,4,4,4]:List Int).getD x.toNat 0) else none
theorem aNw{t:Nat}{s:ByteArray}{y:Operand}{j z:Int}(f:o.op=.index t (.const (.string s)) y)(k:S.P.underlying t=some .string)(hs:(List.range 16).all (fun i=>(s[i]?.map fun b=>(b.toNat:Int))==lt8 i)=true)(h:lt8 j=some z):
  Tr S o H H [(y,.vc (pI .u8 j))] (.vc (pI .u8 z)):=by
 refine⟨fun M w a hh hin K Q q=>?_⟩;have u:a.eval y=.int .u8 j:=hin.1;have x:0≤j∧j<16:=by
  unfold lt8 at h;split at h
  ·assumption
  ·cases h
 obtain⟨m,rfl⟩:∃m:Nat,j=(m:Int):=⟨j.toNat,(Int.toNat_of_nonneg x.1).symm⟩;have F:=List.all_eq_true.1 hs m (List.mem_range.2 (by omega));have e:=eq_of_beq F;rw[h]at e;obtain⟨b,hb,G⟩:∃b,s[m]?=some b∧(b.toNat:Int)=z:=by
  cases hc:s[m]? with
  |none=>rw[hc]at e;cases e
  |some b=>rw[hc]at e;exact⟨b,rfl,by simpa using e⟩
 refine bR (v:=.int .u8 z) ?_ (q _ M w (l5.refl M) hh rfl);have he:a.eval (.const (.string s))=.string s:=rfl;simp[execOp,f,he,u,Instr.index,asIntOf,run_underlying k,hb,G]
theorem aFj{xs:List Int}{n:Nat}{lo:Int}(e:xs.length=n)(h:lo.toNat≤n):(aHe xs lo).length=n:=by unfold aHe;simp;omega
end
end Go.Proofs.YtnmdhmfofbfkjaaGreat
