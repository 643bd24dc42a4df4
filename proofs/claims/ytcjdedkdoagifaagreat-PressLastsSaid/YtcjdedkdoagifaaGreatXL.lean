/- Rates of terms, Lasts, and the example of package press. -/
import Derived.Test.YtcjdedkdoagifaaGreatLS
set_option linter.unusedVariables false
namespace Go.Proofs.YtcjdedkdoagifaaGreat
/-- What a term adds to a rate. -/
def trm (a:List Rat) (t:aQ):Rat:=bif decide (0≤t.dof∧t.dof<(a.length:Int)) then t.k*at' a t.dof.toNat else 0
def rtf (a:List Rat):List aQ→Rat→Rat
 |[],x=>x
 |t::l,x=>rtf a l (x+trm a t)
def rt (l:List aQ) (a:List Rat):Rat:=rtf a l 0
theorem aCT {a:List Rat} {t:aQ} (ha:xC 64 a) (ht:Bd 8 t.k):Bd 72 (trm a t):=by
 unfold trm
 by_cases h:0≤t.dof∧t.dof<(a.length:Int)
 ·rw [decide_eq_true h]
  exact(ht.mul (ha _ (aCK (by omega)))).mono (by omega)
 ·rw [decide_eq_false h]
  exact Bd.zero.mono (by omega)
theorem aEq {a:List Rat} (ha:xC 64 a):∀(l:List aQ) (x:Rat) (n:Nat),(∀t∈l,Bd 8 t.k)→Bd n x→Bd (n+73*l.length) (rtf a l x)
 |[],x,n,_,hx=>hx.mono (by simp)
 |t::l,x,n,hl,hx=>(aEq ha l (x+trm a t) (n+72+1) (fun t h=>hl t (List.mem_cons_of_mem _ h)) (hx.add (aCT ha (hl t List.mem_cons_self)))).mono (by simp only [List.length_cons];omega)
theorem aDx {a:List Rat} {l:List aQ} (ha:xC 64 a) (hl:TB l):Bd 1000 (rt l a):=(aEq ha l 0 1 hl.2 Bd.zero).mono (by have:=hl.1;omega)
theorem aAJ {l:List aQ} {i:Nat} (h:i<l.length):∃x,x∈l∧l.drop i=x::l.drop (i+1)∧dO l (i:Int)=some x:=
 ⟨l[i],List.getElem_mem h,List.drop_eq_getElem_cons h,rdG (List.getElem?_eq_getElem h)⟩
theorem zM {a:List Rat} {t:aQ} (x:Rat) (h:¬(0≤t.dof∧t.dof<(a.length:Int))):x+trm a t=x:=by
 unfold trm;rw [decide_eq_false h];exact Rat.add_zero x
theorem aDi {a:List Rat} {l:List aQ} (ha:xC 64 a) (hl:TB l) (K:Nat):∀(t i k n:Nat) (x:Rat),i+t=l.length→t<k→Bd n x→n+73*t≤1000→jC K l a k x (i:Int)=some (rtf a (l.drop i) x)
 |0,i,k,n,x,hi,hk,hx,hn=>by
  obtain⟨k',rfl,_⟩:=eC hk
  rw [List.drop_eq_nil_of_le (by omega)]
  simp only [jC,dF (show¬(i:Int)<(l.length:Int) by omega),gT];rfl
 |t+1,i,k,n,x,hi,hk,hx,hn=>by
  have h12:=hl.1
  obtain⟨k',rfl,_⟩:=eC hk
  obtain⟨y,h1,h2,h3⟩:=aAJ (l:=l) (i:=i) (by omega)
  have ih:=aDi ha hl K t (i+1) k' (n+72+1) (x+trm a y) (by omega) (by omega) (hx.add (aCT ha (hl.2 y h1))) (by omega)
  rw [h2]
  show _=some (rtf a (l.drop (i+1)) (x+trm a y))
  simp only [jC,dT (show(i:Int)<(l.length:Int) by omega),gL,h3,oB]
  by_cases h0:0≤y.dof
  ·simp only [dT h0,gL]
   by_cases h4:y.dof<(a.length:Int)
   ·have e:y.dof=((y.dof.toNat:Nat):Int):=by omega
    have hr:dO a y.dof=some (at' a y.dof.toNat):=by
     have:=aGn (l:=a) (i:=y.dof.toNat) (by omega)
     rwa [←e] at this
    have hv:=ha _ (aCK (l:=a) (i:=y.dof.toNat) (by omega))
    have ht:trm a y=y.k*at' a y.dof.toNat:=by unfold trm;rw [decide_eq_true ⟨h0,h4⟩];rfl
    rw [ht] at ih ⊢
    simp only [dT h4,gL,hr,oB,aBw (hl.2 y h1) hv (by omega) (by omega),zN hx ((hl.2 y h1).mul hv) (by omega) (by omega),ckS (i:=i) (by omega)]
    exact ih
   ·rw [zM x (fun h=>h4 h.2)] at ih ⊢
    simp only [dF h4,gT,ckS (i:=i) (by omega),oB]
    exact ih
  ·rw [zM x (fun h=>h0 h.1)] at ih ⊢
   simp only [dF h0,gT,ckS (i:=i) (by omega),oB]
   exact ih
theorem aDw {a:List Rat} {l:List aQ} (ha:xC 64 a) (hl:TB l) {K:Nat} (hK:13≤K):gE K l a=some (rt l a):=by
 have h:=hl.1
 have:=aDi ha hl K l.length 0 K 1 0 (by omega) (by omega) Bd.zero (by omega)
 simp only [Int.natCast_zero,List.drop_zero] at this
 simp only [gE,this,oB,rL];rfl
theorem aCl {a:List Rat} {l:List aQ} (ha:xC 64 a) (hl:TB l) (K:Nat):∀(t i k n:Nat) (x:Rat),i+t=l.length→t<k→Bd n x→n+73*t≤1000→eP K l a k x (i:Int)=some (rtf a (l.drop i) x)
 |0,i,k,n,x,hi,hk,hx,hn=>by
  obtain⟨k',rfl,_⟩:=eC hk
  rw [List.drop_eq_nil_of_le (by omega)]
  simp only [eP,dF (show¬(i:Int)<(l.length:Int) by omega),gT];rfl
 |t+1,i,k,n,x,hi,hk,hx,hn=>by
  have h12:=hl.1
  obtain⟨k',rfl,_⟩:=eC hk
  obtain⟨y,h1,h2,h3⟩:=aAJ (l:=l) (i:=i) (by omega)
  have ih:=aCl ha hl K t (i+1) k' (n+72+1) (x+trm a y) (by omega) (by omega) (hx.add (aCT ha (hl.2 y h1))) (by omega)
  rw [h2]
  show _=some (rtf a (l.drop (i+1)) (x+trm a y))
  simp only [eP,dT (show(i:Int)<(l.length:Int) by omega),gL,h3,oB]
  by_cases h0:0≤y.dof
  ·simp only [dT h0,gL]
   by_cases h4:y.dof<(a.length:Int)
   ·have e:max y.dof 0=((y.dof.toNat:Nat):Int):=by omega
    have hr:dO a (max y.dof 0)=some (at' a y.dof.toNat):=by
     rw [e];exact aGn (l:=a) (i:=y.dof.toNat) (by omega)
    have hv:=ha _ (aCK (l:=a) (i:=y.dof.toNat) (by omega))
    have ht:trm a y=y.k*at' a y.dof.toNat:=by unfold trm;rw [decide_eq_true ⟨h0,h4⟩];rfl
    rw [ht] at ih ⊢
    simp only [dT h4,gL,hr,oB,aBw (hl.2 y h1) hv (by omega) (by omega),zN hx ((hl.2 y h1).mul hv) (by omega) (by omega),ckS (i:=i) (by omega)]
    exact ih
   ·rw [zM x (fun h=>h4 h.2)] at ih ⊢
    simp only [dF h4,gT,ckS (i:=i) (by omega),oB]
    exact ih
  ·rw [zM x (fun h=>h0 h.1)] at ih ⊢
   simp only [dF h0,gT,ckS (i:=i) (by omega),oB]
   exact ih
theorem aCe {a:List Rat} {l:List aQ} (ha:xC 64 a) (hl:TB l) {K:Nat} (hK:13≤K):kQ K l a=some (rt l a):=by
 have h:=hl.1
 have:=aCl ha hl K l.length 0 K 1 0 (by omega) (by omega) Bd.zero (by omega)
 simp only [Int.natCast_zero,List.drop_zero] at this
 simp only [kQ,this,oB,mI];rfl
def aAo (v a:List Rat) (r:aK):Bool:=decide ((rt r.t v*(rt r.t v+rt r.t a)).num.sign<0)
theorem uV {x:Rat} (h:0<x):x.num.sign=1:=by
 have h1:=Rat.num_nonneg.2 (Rat.le_of_lt h)
 have h2:x.num≠0:=fun e=>by rw [Rat.num_eq_zero.1 e] at h;exact Rat.lt_irrefl h
 exact Int.sign_eq_one_of_pos (by omega)
theorem z4 {x:Rat} (h:x<0):0< -x:=by
 have:=Rat.neg_lt_neg h
 rwa [Rat.neg_zero] at this
theorem aEn {x:Rat} (h:0< -x):x<0:=by
 have:=Rat.neg_lt_neg h
 rwa [Rat.neg_zero,Rat.neg_neg] at this
theorem vX {x:Rat} (h:x<0):x.num.sign=-1:=by
 have h1:=uV (z4 h)
 rw [Rat.neg_num,Int.sign_neg] at h1
 omega
theorem aGi (z:Rat):z<0∨z=0∨0<z:=by
 by_cases h:z<0
 ·exact .inl h
 ·by_cases h0:z=0
  ·exact .inr (.inl h0)
  ·exact .inr (.inr (Rat.lt_iff_le_and_ne.2 ⟨Rat.not_lt.1 h,fun e=>h0 e.symm⟩))
theorem aEU (x y:Rat):(x*y).num.sign=x.num.sign*y.num.sign:=by
 rcases aGi x with h|h|h
 ·rcases aGi y with k|k|k
  ·have:=Rat.mul_pos (z4 h) (z4 k)
   rw [Rat.neg_mul,Rat.mul_neg,Rat.neg_neg] at this
   rw [vX h,vX k,uV this];rfl
  ·rw [k,Rat.mul_zero];simp
  ·have:=Rat.mul_pos (z4 h) k
   rw [Rat.neg_mul] at this
   rw [vX h,uV k,vX (aEn this)];rfl
 ·rw [h,Rat.zero_mul];simp
 ·rcases aGi y with k|k|k
  ·have:=Rat.mul_pos h (z4 k)
   rw [Rat.mul_neg] at this
   rw [uV h,vX k,vX (aEn this)];rfl
  ·rw [k,Rat.mul_zero];simp
  ·rw [uV h,uV k,uV (Rat.mul_pos h k)];rfl
theorem aEy {v a:List Rat} {r:aK} (hv:xC 64 v) (ha:xC 64 a) (hr:RB r) {K:Nat} (hK:13≤K):mY K v a r=some (aAo v a r):=by
 have b1:=aDx hv hr.2
 have b2:=aDx ha hr.2
 simp only [mY,aDw hv hr.2 hK,aDw ha hr.2 hK,oB,zN b1 b2 (by omega) (by omega),aBw b1 (b1.add b2) (by omega) (by omega),sG (b1.mul (b1.add b2)) (by omega)]
 rfl
theorem aAT {l:List aK} {i:Nat} (h:i<l.length):∃x,x∈l∧l.drop i=x::l.drop (i+1)∧dO l (i:Int)=some x:=
 ⟨l[i],List.getElem_mem h,List.drop_eq_getElem_cons h,rdG (List.getElem?_eq_getElem h)⟩
theorem aGS {l:List aK} {f:aK→Option Bool} {b:aK→Bool} (hf:∀r∈l,f r=some (b r)) (hl:l.length≤1000) (K:Nat):∀(t i k:Nat),i+t=l.length→t<k→
  (l.drop i).any b=false∧d7 K l f k (i:Int)=some (.go ())∨(l.drop i).any b=true∧∃j:Nat,d7 K l f k (i:Int)=some (.ret (j:Int))
 |0,i,k,hi,hk=>by
  obtain⟨k',rfl,_⟩:=eC hk
  refine .inl ⟨by rw [List.drop_eq_nil_of_le (by omega)];rfl,?_⟩
  simp only [d7,dF (show¬(i:Int)<(l.length:Int) by omega),gT]
 |t+1,i,k,hi,hk=>by
  obtain⟨k',rfl,_⟩:=eC hk
  obtain⟨x,h1,h2,h3⟩:=aAT (l:=l) (i:=i) (by omega)
  rw [h2]
  simp only [d7,dT (show(i:Int)<(l.length:Int) by omega),gL,h3,oB,hf x h1,List.any_cons]
  cases b x
  ·simp only [gT,Bool.false_or,ckS (i:=i) (by omega),oB]
   exact aGS hf hl K t (i+1) k' (by omega) (by omega)
  ·exact .inr ⟨rfl,i,by simp only [gL]⟩
theorem aD5 {l:List aK} {f:aK→Option Bool} {b:aK→Bool} (hf:∀r∈l,f r=some (b r)) (hl:l.length≤1000) {K:Nat} (hK:l.length<K):eX K l f=some (l.any b):=by
 have:=aGS hf hl K l.length 0 K (by omega) hK
 simp only [Int.natCast_zero,List.drop_zero] at this
 rcases this with⟨h1,h2⟩|⟨h1,y,h2⟩
 ·simp only [eX,jI,h2,oB,kC,h1];rfl
 ·simp only [eX,jI,h2,oB,h1,dT (show(0:Int)≤(y:Int) by omega)]
theorem aCg {v a:List Rat} {l:List aK} (hv:xC 64 v) (ha:xC 64 a) (hl:RsB l) (hn:l.length≤10) {K:Nat} (hK:13≤K):nO K v a l=some (!l.any (aAo v a)):=by
 simp only [nO,aD5 (fun r hr=>aEy hv ha (hl r hr) hK) (by omega) (show l.length<K by omega),oB]
theorem aA1 {v a:List Rat} {l:List aK} (hv:xC 64 v) (ha:xC 64 a) (hl:RsB l) (hn:l.length≤10) {K:Nat} (hK:13≤K):∀(t i k:Nat),i+t=l.length→t<k→
  f7 K v a l k (i:Int)=some (bif(l.drop i).any (aAo v a) then .ret false else .go ())
 |0,i,k,hi,hk=>by
  obtain⟨k',rfl,_⟩:=eC hk
  rw [List.drop_eq_nil_of_le (by omega)]
  simp only [f7,dF (show¬(i:Int)<(l.length:Int) by omega),gT]
  rfl
 |t+1,i,k,hi,hk=>by
  obtain⟨k',rfl,_⟩:=eC hk
  obtain⟨x,h1,h2,h3⟩:=aAT (l:=l) (i:=i) (by omega)
  have hr:=hl x h1
  have b1:=aDx hv hr.2
  have b2:=aDx ha hr.2
  have sg:∀q:Rat,-1≤q.num.sign∧q.num.sign≤1:=fun q=>by
   rcases Int.lt_trichotomy q.num 0 with h|h|h
   ·rw [Int.sign_eq_neg_one_of_neg h];omega
   ·rw [h];decide
   ·rw [Int.sign_eq_one_of_pos h];omega
  have hp:(rt x.t v).num.sign*(rt x.t v+rt x.t a).num.sign=(rt x.t v*(rt x.t v+rt x.t a)).num.sign:=(aEU _ _).symm
  have hs:=sg (rt x.t v*(rt x.t v+rt x.t a))
  rw [h2,List.any_cons]
  simp only [f7,dT (show(i:Int)<(l.length:Int) by omega),gL,h3,oB,aCe hv hr.2 hK,aCe ha hr.2 hK,zN b1 b2 (by omega) (by omega),sG b1 (by omega),sG (b1.add b2) (by omega),hp,
   mM (show -9223372036854775808≤(rt x.t v*(rt x.t v+rt x.t a)).num.sign∧_ by omega),show decide ((rt x.t v*(rt x.t v+rt x.t a)).num.sign<0)=aAo v a x from rfl]
  cases aAo v a x
  ·simp only [gT,Bool.false_or,ckS (i:=i) (by omega),oB]
   exact aA1 hv ha hl hn hK t (i+1) k' (by omega) (by omega)
  ·simp only [gL,Bool.true_or]
theorem aA5 {v a:List Rat} {l:List aK} (hv:xC 64 v) (ha:xC 64 a) (hl:RsB l) (hn:l.length≤10) {K:Nat} (hK:13≤K):jQ K v a l=some (!l.any (aAo v a)):=by
 have:=aA1 hv ha hl hn hK l.length 0 K (by omega) (by omega)
 simp only [Int.natCast_zero,List.drop_zero] at this
 simp only [jQ,this,oB,lU]
 cases l.any (aAo v a)<;>rfl
theorem aFd (K:Nat):nS (K+40)=some true:=by kernel_rfl
theorem chq6 {x:Int} (h:-9223372036854775808≤x∧x≤9223372036854775807):∃r,r4 x 6=some r∧-9223372036854775808≤r∧r≤9223372036854775807:=by
 have h0:(x.tdiv 6).natAbs=x.natAbs/6:=Int.natAbs_tdiv x 6
 have h2:-9223372036854775808≤x.tdiv 6∧x.tdiv 6≤9223372036854775807:=by omega
 exact⟨x.tdiv 6,by unfold r4;rw [if_neg (by omega),mM h2],h2⟩
theorem aEk {m:List Int} (hm:z2 m) {n:Int} (hn:-9223372036854775808≤n∧n≤9223372036854775807) {c:Int} (hc:eG n 6=some c) (h0:0≤c) (h6:c<6):∀(t i:Nat) (x:List Rat),i+t=c.toNat→xC 8 x→x.length=i→∃r,xC 8 r∧∀K k,t<k→d6 K m n k x (i:Int)=some r
 |0,i,x,hi,hx,hl=>⟨x,hx,fun K k hk=>by
  obtain⟨k',rfl,_⟩:=eC hk
  simp only [d6,hc,oB,dF (show¬(i:Int)<c by omega),gT]⟩
 |t+1,i,x,hi,hx,hl=>by
  obtain⟨v,v1,v2,v3⟩:=uY hm (i:Int) (m:=1073741824) (by omega)
  obtain⟨q,q1,q2⟩:=aBX (x:=v) (by omega)
  obtain⟨r,r1,r2⟩:=aEk hm hn hc h0 h6 t (i+1) (x++[q]) (by omega) (hx.snoc q2) (by simp;omega)
  refine⟨r,r1,fun K k hk=>?_⟩
  obtain⟨k',rfl,_⟩:=eC hk
  simp only [d6,hc,oB,dT (show(i:Int)<c by omega),gL,v1,q1,apS (xs:=x) (x:=q) (by omega),ckS (i:=i) (by omega)]
  exact r2 K k' (by omega)
theorem aEh {m:List Int} (hm:z2 m) {n n6:Int} (hq:r4 n 6=some n6) {c:Int} (hc:eG n6 6=some c) (h0:0≤c) (h6:c<6):∀(t i:Nat) (x:List Rat),i+t=c.toNat→xC 8 x→x.length=i→∃r,xC 8 r∧∀K k,t<k→dY K m n k x (i:Int)=some r
 |0,i,x,hi,hx,hl=>⟨x,hx,fun K k hk=>by
  obtain⟨k',rfl,_⟩:=eC hk
  simp only [dY,hq,hc,oB,dF (show¬(i:Int)<c by omega),gT]⟩
 |t+1,i,x,hi,hx,hl=>by
  obtain⟨v,v1,v2,v3⟩:=uY hm (6+(i:Int)) (m:=1073741824) (by omega)
  obtain⟨q,q1,q2⟩:=aBX (x:=v) (by omega)
  obtain⟨r,r1,r2⟩:=aEh hm hq hc h0 h6 t (i+1) (x++[q]) (by omega) (hx.snoc q2) (by simp;omega)
  refine⟨r,r1,fun K k hk=>?_⟩
  obtain⟨k',rfl,_⟩:=eC hk
  simp only [dY,hq,hc,oB,dT (show(i:Int)<c by omega),gL,mM (show -9223372036854775808≤6+(i:Int)∧_ by omega),v1,q1,apS (xs:=x) (x:=q) (by omega),ckS (i:=i) (by omega)]
  exact r2 K k' (by omega)
theorem zE {a0 a1:List Int} {a2:Int} (h0:z2 a0) (h1:z2 a1) (h2:-9223372036854775808≤a2∧a2≤9223372036854775807):∃K,iK K a0 a1 a2=some true:=by
 obtain⟨s,hsc,hs⟩:=aFp h0 false
 obtain⟨c,c1,c2,c3⟩:=vZ (x:=a2) (m:=6) h2 (by omega)
 obtain⟨n6,e6,b6⟩:=chq6 h2
 obtain⟨d,d1,d2,d3⟩:=vZ (x:=n6) (m:=6) b6 (by omega)
 obtain⟨a,k1,k2⟩:=aEk h1 h2 c1 c2 c3 c.toNat 0 [] (by omega) (fun x h=>absurd h List.not_mem_nil) rfl
 obtain⟨b,m1,m2⟩:=aEh h1 e6 d1 d2 d3 d.toNat 0 [] (by omega) (fun x h=>absurd h List.not_mem_nil) rfl
 have up:∀{x:List Rat},xC 8 x→xC 64 x:=fun h y hy=>(h y hy).mono (by omega)
 refine(?_:Ev (fun K=>iK K a0 a1 a2) true).get
 unfold iK
 refine Ev.bind hs ?_
 refine Ev.bind (x:=a) ⟨7,fun K hK=>k2 K K (by omega)⟩ ?_
 unfold iM
 refine Ev.bind (x:=b) ⟨7,fun K hK=>m2 K K (by omega)⟩ ?_
 refine⟨60,fun K hK=>?_⟩
 have hr:=hsc.rl
 have hl:=aFd (K-40)
 rw [show K-40+40=K by omega] at hl
 simp only [iO,aCg (up hsc.v) (up k1) hsc.rows (by omega) (show 13≤K by omega),aA5 (up hsc.v) (up k1) hsc.rows (by omega) (show 13≤K by omega),aCg (up m1) (up k1) hsc.rows (by omega) (show 13≤K by omega),aA5 (up m1) (up k1) hsc.rows (by omega) (show 13≤K by omega),oB,beq_self_eq_true,gL,hl]
end Go.Proofs.YtcjdedkdoagifaaGreat
