/- Texts of the proof, part 6: XY YE YF YG YH YI YJ YK YL YM XZ YN YO YP YQ YS YT YV YW YX. -/
import Derived.Test.YtcjdedkdoagifaaGreatZ5
set_option linter.unusedVariables false
namespace Go.Proofs.YtcjdedkdoagifaaGreat
def zO (G:Nat→Nat→Rat) (k:Nat) (b:Nat→Rat) (i c:Nat):Rat:=if c=k then b i else G i c
def gk (M:Nat→Nat→Rat) (k i c:Nat):Rat:=if c<k then M i c else 0
theorem aBN {M:Nat→Nat→Rat} {k:Nat}:zO (gk M k) k z0=gk M k:=by
 funext i c
 unfold zO gk z0
 by_cases h:c=k
 ·rw [if_pos h,if_neg (by omega)]
 ·rw [if_neg h]
theorem aNe {G:Nat→Nat→Rat} {k i:Nat} {b:Nat→Rat}:zO G k b i k=b i:=if_pos rfl
theorem aBF {G:Nat→Nat→Rat} {k j N:Nat} {b:Nat→Rat} {x:Rat}:yQ (iL (zO G k b) j (iL (zO G k b j) k x)) N=yQ (zO G k (iL b j x)) N:=tV fun i c _ _=>by
 by_cases e:i=j
 ·subst e
  rw [aX]
  by_cases h:c=k
  ·subst h;rw [aX];unfold zO;rw [if_pos rfl,aX]
  ·rw [cF h];unfold zO;rw [if_neg h,if_neg h]
 ·rw [cF e]
  unfold zO
  by_cases h:c=k
  ·rw [if_pos h,if_pos h,cF e]
  ·rw [if_neg h,if_neg h]
theorem aOT {M:Nat→Nat→Rat} {k N:Nat} {b w:Nat→Rat} (h:∀i,i<N→M i k=b i+w i):yQ (adc (zO (gk M k) k b) k w N) N=yQ (gk M (k+1)) N:=tV fun i c hi _=>by
 unfold adc zO gk
 by_cases e:c=k
 ·subst e;rw [if_pos ⟨rfl,hi⟩,if_pos rfl,if_pos (by omega),h i hi]
 ·rw [if_neg fun h2=>e h2.1,if_neg e]
  by_cases e2:c<k
  ·rw [if_pos e2,if_pos (by omega)]
  ·rw [if_neg e2,if_neg (by omega)]
theorem aMG {M:Nat→Nat→Rat} {k N:Nat} {b:Nat→Rat} (h:∀i,i<N→M i k=b i):yQ (zO (gk M k) k b) N=yQ (gk M (k+1)) N:=tV fun i c hi _=>by
 unfold zO gk
 by_cases e:c=k
 ·subst e;rw [if_pos rfl,if_pos (by omega),h i hi]
 ·rw [if_neg e]
  by_cases e2:c<k
  ·rw [if_pos e2,if_pos (by omega)]
  ·rw [if_neg e2,if_neg (by omega)]
theorem aCH {d:List aG} {f v:List Rat} {l:List aA} (h:ScB d f v l) {k:Nat} (hk:k<off v l l.length) {b:Nat→Rat} (hb:∀i,i<off v l l.length→bc v l k i=b i) (hbb:∀i,Bd 8 (b i)) {K:Nat} (hK:5000≤K):
  bE K ⟨d,f,v,l⟩ (mp z0 d.length) (mp (pz v l (ek k)) l.length)=some (mp (xM d z0 l (pz v l (ek k))) d.length)∧
  bY K (mp (xM d z0 l (pz v l (ek k))) d.length) (k:Int) ((wY v l l.length).map pu) ⟨d,f,v,l⟩ (zP (off v l l.length)) (yQ (zO (gk (Mf d v l) k) k b) (off v l l.length))=some (zP (off v l l.length),yQ (gk (Mf d v l) (k+1)) (off v l l.length)):=by
 have h8:=h.m8
 have hn:=h.n8
 have hp:=aEf (l:=l) (v:=v) (z:=ek k) (C:=1) (fun k _=>aI8) h.sb.sl
 have hrb:RsB l:=fun r hr=>(h.sb.sl r hr).1
 have hc:(2*1+11+9)*24*l.length≤400000000:=Nat.le_trans (bd8 (C:=1) (Nat.le_refl 1) h8) (by decide)
 have hz:∀j,j<d.length→Bd 1 (z0 j):=fun j _=>Bd.zero
 have hbd:=aDO (p:=pz v l (ek k)) h.sb.sd hz hrb h.ir hp (by omega) (by omega) (by omega) hc
 refine⟨aE2 (p:=pz v l (ek k)) h.sb.sd (by omega) hz hrb h.ir (by omega) hp (by omega) hc (by omega),?_⟩
 have e:=aQz (d:=d) (f:=f) (G:=zO (gk (Mf d v l) k) k b) (c:=k) (BG:=8) h.sb.sl hbd (by unfold aHq;omega) (by omega) hk (fun i hi=>by rw [aNe];exact hbb i) (by omega) hK
 rw [e,aOT fun i hi=>?_]
 rw [←hb i hi]
 exact Rat.add_comm _ _
theorem aJL {x:List aF} (hn:x.length≤60000000000):nB x=some x:=by
 unfold nB
 rw [z8 (by simp;omega)];rfl
theorem aFt {j:Nat} {x:Rat} (h:Bd 8 x):∀i,Bd 8 (iL z0 j x i):=fun i=>by
 by_cases e:i=j
 ·rw [e,aX];exact h
 ·rw [cF e];exact Bd.zero.mono (by omega)
theorem aIf:Bd 8 (-1:Rat):=(show Bd 1 (-1:Rat) by constructor<;>decide).mono (by omega)
theorem zT:Bd 8 (1:Rat):=(show Bd 1 (1:Rat) by constructor<;>decide).mono (by omega)
theorem aJi:aAY 1=some (-1:Rat):=aBe zT (by omega)
theorem aPU {v:List Rat} {l:List aA} {r:Nat}:pz v l (ek (off v l r)) r=⟨1,if(jA l r).t.length=0 then 0 else(((-(rt (jA l r).t v).num.sign:Int):Rat)/((1:Int):Rat))*((jA l r).mu*1)⟩:=by
 have h0:ek (off v l r) (off v l r)=1:=aX
 have hv0:vq v l r 0:=.inl rfl
 unfold pz
 rw [h0]
 by_cases ht:(jA l r).t.length=0
 ·rw [if_pos ht,if_pos ht]
 ·rw [if_neg ht,if_neg ht]
  by_cases hs:(rt (jA l r).t v).num.sign=0
  ·have hst:yS v (jA l r)=true:=by
    unfold yS;rw [decide_eq_true (show 0<(jA l r).t.length by omega),decide_eq_true hs];rfl
   have e1:=t9 hv0 (r':=r) (q':=1) (.inr ⟨hst,by omega⟩)
   have e2:=t9 hv0 (r':=r) (q':=2) (.inr ⟨hst,by omega⟩)
   rw [Nat.add_zero] at e1 e2
   rw [if_neg (fun h=>h hs),e1,e2,hs]
   have z:((-(0:Int):Int):Rat)/((1:Int):Rat)=0:=by decide+kernel
   rw [z,Rat.zero_mul]
   simp [Rat.sub_self]
  ·rw [if_pos hs]
theorem aQu {v:List Rat} {l:List aA} {r:Nat} (h:vq v l r 1):pz v l (ek (off v l r+1)) r=⟨0,1⟩:=by
 have hst:yS v (jA l r)=true:=by rcases h with h|h;omega;exact h.1
 obtain⟨s1,s2⟩:=aHn hst
 have e0:ek (off v l r+1) (off v l r)=if r=r∧0=1 then 1 else 0:=t9 h (r':=r) (q':=0) (.inl rfl)
 unfold pz
 rw [if_neg s1,if_neg (fun h=>h s2),e0,t9 h (r':=r) (q':=1) h,t9 h (r':=r) (q':=2) (vqs h (by omega) (by omega))]
 simp [Rat.sub_eq_add_neg,Rat.add_zero,Rat.neg_zero]
theorem aPS {v:List Rat} {l:List aA} {r:Nat} (h:vq v l r 2):pz v l (ek (off v l r+2)) r=⟨0,-1⟩:=by
 have hst:yS v (jA l r)=true:=by rcases h with h|h;omega;exact h.1
 obtain⟨s1,s2⟩:=aHn hst
 have e0:ek (off v l r+2) (off v l r)=if r=r∧0=2 then 1 else 0:=t9 h (r':=r) (q':=0) (.inl rfl)
 unfold pz
 rw [if_neg s1,if_neg (fun h=>h s2),e0,t9 h (r':=r) (q':=1) (vqs h (by omega) (by omega)),t9 h (r':=r) (q':=2) h]
 simp [Rat.sub_eq_add_neg,Rat.zero_add]
theorem aQO {d:List aG} {v:List Rat} {l:List aA} {r i:Nat} (h:vq v l r 3):Mf d v l i (off v l r+3)=bc v l (off v l r+3) i:=by
 unfold Mf bc
 have e:∀r',r'<l.length→pz v l (ek (off v l r+3)) r'=p0 r':=fun r' _=>by
  by_cases e:r'=r
  ·subst e
   have e0:ek (off v l r'+3) (off v l r')=if r'=r'∧0=3 then 1 else 0:=t9 h (r':=r') (q':=0) (.inl rfl)
   refine aIX (by rw [e0,if_neg (by omega)]) fun hs=>⟨?_,?_⟩
   ·rw [t9 h (r':=r') (q':=1) (vqs h (by omega) (by omega)),if_neg (by omega)]
   ·rw [t9 h (r':=r') (q':=2) (vqs h (by omega) (by omega)),if_neg (by omega)]
  ·exact aGI h e
 rw [aEu e,aK1,aNb,Rat.zero_add]
theorem aDs {d:List aG} {f v:List Rat} {l:List aA} {r:aA} {x:Rat} {C:Nat} (hv:vH 64 v) (hr:RC r) (hx:Bd C x) (hC:C≤500000000) {K:Nat} (hK:13≤K):jN K ⟨d,f,v,l⟩ r x=some ((((-(rt r.t v).num.sign:Int):Rat)/((1:Int):Rat))*(r.mu*x)):=by
 have hb:=aJg (rt r.t v)
 simp only [jN,aJd hv hr.1 hK,oB,kM (show -9223372036854775808≤-(rt r.t v).num.sign∧_ by omega),(qsg _).1,oT hr.2 hx (by omega) (by omega),oT (qsg (rt r.t v)).2 (hr.2.mul hx) (by omega) (by omega)]
theorem aI3 {d:List aG} {f v:List Rat} {l:List aA} (h:ScB d f v l) {K:Nat} (hK:5000≤K):∀(t k fu:Nat),k+t=off v l l.length→t<fu→aW K ⟨d,f,v,l⟩ ((wY v l l.length).map pu) (mp p0 l.length) 1 fu (zP (off v l l.length)) (yQ (gk (Mf d v l) k) (off v l l.length)) (k:Int)=some (zP (off v l l.length),yQ (gk (Mf d v l) (off v l l.length)) (off v l l.length))
 |0,k,fu,hi,hk=>by
  obtain⟨k',rfl,_⟩:=a9 hk
  have e:k=off v l l.length:=by omega
  rw [e]
  simp only [aW,sM,dF (show¬(off v l l.length:Int)<(off v l l.length:Int) by omega),bM]
 |t+1,k,fu,hi,hk=>by
  obtain⟨k',rfl,_⟩:=a9 hk
  have hkl:k<off v l l.length:=by omega
  have h8:=h.m8
  have hn:=h.n8
  have h4:=qQ (v:=v) (l:=l) l.length
  obtain⟨r,q,h1,h2,h3⟩:=sN l.length k hkl
  have hq3:=vq3 h2
  have hu:=rdU (m:=l.length) h2 h1
  rw [←h3] at hu
  have hr:=h.sb.sl _ (oA h1)
  have ih:=aI3 h hK t (k+1) k' (by omega) (by omega)
  have hcl:=aJL (x:=mp p0 l.length) (by rw [bV];omega)
  have hz:vC ((d.length:Nat):Int) (0:Rat)=some (mp z0 d.length):=aAJ (by omega)
  have c3:aP ((k:Int)+3)=some ((k+3:Nat):Int):=by rw [kM (by omega)];rfl
  have hcase:q=0∨q=1∨q=2∨q=3:=by omega
  rcases hcase with rfl|rfl|rfl|rfl
  ·have hk0:k=off v l r:=h3
   have hpk:=aLc (x:=⟨1,if(jA l r).t.length=0 then 0 else(((-(rt (jA l r).t v).num.sign:Int):Rat)/((1:Int):Rat))*((jA l r).mu*1)⟩) (r:=r) h2 (by rw [Nat.add_zero];exact aPU)
   rw [Nat.add_zero,←hk0] at hpk
   have key:dM K ⟨d,f,v,l⟩ ((wY v l l.length).map pu) (zP (off v l l.length)) (yQ (gk (Mf d v l) k) (off v l l.length)) (k:Int) ⟨(r:Int),0⟩ (jA l r) (aW K ⟨d,f,v,l⟩ ((wY v l l.length).map pu) (mp p0 l.length) 1 k') (mp (pz v l (ek k)) l.length)=some (zP (off v l l.length),yQ (gk (Mf d v l) (off v l l.length)) (off v l l.length)):=by
    cases hst:yS v (jA l r)
    ·obtain⟨a1,a2⟩:=aCH h hkl (b:=z0) (fun i hi=>by rw [hk0];exact aPw hst hi) (fun i=>Bd.zero.mono (by omega)) hK
     rw [aBN] at a2
     by_cases hk3:k+3<off v l l.length
     ·obtain⟨r',q',g1,g2,g3⟩:=sN l.length (k+3) hk3
      have hu':=rdU (m:=l.length) g2 g1
      rw [←g3] at hu'
      have hne:((r':Int)==(r:Int)&&((q':Nat):Int)==3)=false:=by
       rw [Bool.and_eq_false_iff]
       by_cases e:r'=r
       ·right
        refine qF fun e2=>?_
        rw [e] at g2
        rcases g2 with g|g
        ·omega
        ·rw [hst] at g;exact absurd g.1 (by decide)
       ·left;exact qF (by omega)
      simp only [dM,c3,oB,sM,dT (show((k+3:Nat):Int)<(off v l l.length:Int) by omega),bT,hu',hne,bM,hz,a1,a2,mF (i:=k) (by omega)]
      exact ih
     ·simp only [dM,c3,oB,sM,dF (show¬((k+3:Nat):Int)<(off v l l.length:Int) by omega),bM,hz,a1,a2,mF (i:=k) (by omega)]
      exact ih
    ·have v3:vq v l r 3:=.inr ⟨hst,by omega⟩
     have l3:=pY (v:=v) (l:=l) (m:=l.length) h1 v3
     rw [←hk0] at l3
     have hu':=rdU (m:=l.length) v3 h1
     rw [←hk0] at hu'
     obtain⟨a1,a2⟩:=aCH h hkl (b:=iL z0 (k+3) (jA l r).mu) (fun i hi=>by rw [hk0];exact aRq hst hi) (aFt hr.2) hK
     have hy:((r:Int)==(r:Int)&&((3:Nat):Int)==3)=true:=by rw [qT rfl];rfl
     have e1:=aBF (G:=gk (Mf d v l) k) (k:=k) (j:=k+3) (N:=off v l l.length) (b:=z0) (x:=(jA l r).mu)
     rw [aBN] at e1
     simp only [dM,c3,oB,sM,dT (show((k+3:Nat):Int)<(off v l l.length:Int) by omega),bT,hu',hy,rdO l3,aA0 l3,dR (f:=gk (Mf d v l) k (k+3)) hkl,rG (f:=gk (Mf d v l) k (k+3)) hkl,aDQ,e1,hz,a1,a2,mF (i:=k) (by omega)]
     exact ih
   simp only [aW,sM,dT (show(k:Int)<(off v l l.length:Int) by omega),bT,hu,oB,hcl,aA1 h1,qT (show((0:Nat):Int)=0 from rfl),dR (f:=p0) h1,rG (f:=p0) h1]
   by_cases ht:(jA l r).t.length=0
   ·rw [if_pos ht] at hpk
    simp only [dF (show¬(0:Int)<((jA l r).t.length:Int) by omega),bM]
    rw [show(⟨1,(p0 r).f⟩:aF)=⟨1,0⟩ from rfl,hpk]
    exact key
   ·rw [if_neg ht] at hpk
    simp only [dT (show(0:Int)<((jA l r).t.length:Int) by omega),bT,aDs h.sb.sv hr zT (by omega) (show 13≤K by omega),oB,dR (f:=iL p0 r ⟨1,(p0 r).f⟩) h1,rG (f:=iL p0 r ⟨1,(p0 r).f⟩) h1,aX,aNc,hpk]
    exact key
  ·have v3:vq v l r 3:=vqs h2 (by omega) (by omega)
   have l3:=pY (v:=v) (l:=l) (m:=l.length) h1 v3
   have hj:k+2<off v l l.length:=by omega
   have hpk:=aLc (x:=⟨0,1⟩) h2 (aQu h2)
   rw [←h3] at hpk
   obtain⟨a1,a2⟩:=aCH h hkl (b:=iL z0 (k+2) (-1)) (fun i hi=>by rw [h3];exact aQo h2 hi) (aFt aIf) hK
   have e1:=aBF (G:=gk (Mf d v l) k) (k:=k) (j:=k+2) (N:=off v l l.length) (b:=z0) (x:=-1)
   rw [aBN] at e1
   have c4:aP (((k+3:Nat):Int)-1)=some ((k+2:Nat):Int):=by rw [show((k+3:Nat):Int)-1=((k+2:Nat):Int) by omega,kM (by omega)]
   have ep:(⟨(p0 r).n,1⟩:aF)=⟨0,1⟩:=rfl
   simp only [aW,sM,dT (show(k:Int)<(off v l l.length:Int) by omega),bT,hu,oB,hcl,aA1 h1,qF (show((1:Nat):Int)≠0 by omega),qT (show((1:Nat):Int)=1 from rfl),bM,dR (f:=p0) h1,rG (f:=p0) h1,ep,hpk,c3,c4,rdO hj,aJi,aA0 hj,dR (f:=gk (Mf d v l) k (k+2)) hkl,rG (f:=gk (Mf d v l) k (k+2)) hkl,aDQ,e1,hz,a1,a2,mF (i:=k) (by omega)]
   exact ih
  ·have v3:vq v l r 3:=vqs h2 (by omega) (by omega)
   have l3:=pY (v:=v) (l:=l) (m:=l.length) h1 v3
   have hj:k+1<off v l l.length:=by omega
   have hpk:=aLc (x:=⟨0,-1⟩) h2 (aPS h2)
   rw [←h3] at hpk
   obtain⟨a1,a2⟩:=aCH h hkl (b:=iL z0 (k+1) (-1)) (fun i hi=>by rw [h3];exact aQ5 h2 hi) (aFt aIf) hK
   have e1:=aBF (G:=gk (Mf d v l) k) (k:=k) (j:=k+1) (N:=off v l l.length) (b:=z0) (x:=-1)
   rw [aBN] at e1
   have c4:aP (((k+3:Nat):Int)-2)=some ((k+1:Nat):Int):=by rw [show((k+3:Nat):Int)-2=((k+1:Nat):Int) by omega,kM (by omega)]
   have ep:(⟨(p0 r).n,-1⟩:aF)=⟨0,-1⟩:=rfl
   simp only [aW,sM,dT (show(k:Int)<(off v l l.length:Int) by omega),bT,hu,oB,hcl,aA1 h1,qF (show((2:Nat):Int)≠0 by omega),qF (show((2:Nat):Int)≠1 by omega),qT (show((2:Nat):Int)=2 from rfl),bM,dR (f:=p0) h1,rG (f:=p0) h1,aJi,ep,hpk,c3,c4,rdO hj,aA0 hj,dR (f:=gk (Mf d v l) k (k+1)) hkl,rG (f:=gk (Mf d v l) k (k+1)) hkl,aDQ,e1,hz,a1,a2,mF (i:=k) (by omega)]
   exact ih
  ·have hj1:k-2<off v l l.length:=by omega
   have hj2:k-1<off v l l.length:=by omega
   have e1:=aBF (G:=gk (Mf d v l) k) (k:=k) (j:=k-2) (N:=off v l l.length) (b:=z0) (x:=1)
   rw [aBN] at e1
   have e2:=aBF (G:=gk (Mf d v l) k) (k:=k) (j:=k-1) (N:=off v l l.length) (b:=iL z0 (k-2) 1) (x:=1)
   have e3:yQ (zO (gk (Mf d v l) k) k (iL (iL z0 (k-2) 1) (k-1) 1)) (off v l l.length)=yQ (gk (Mf d v l) (k+1)) (off v l l.length):=aMG fun i hi=>by
    rw [h3,aQO h2,aRs h2 hi];rfl
   have c1:aP (((k+1:Nat):Int)-3)=some ((k-2:Nat):Int):=by rw [show((k+1:Nat):Int)-3=((k-2:Nat):Int) by omega,kM (by omega)]
   have c2:aP ((k:Int)+2)=some ((k+2:Nat):Int):=by rw [kM (by omega)];rfl
   have c4:aP (((k+2:Nat):Int)-3)=some ((k-1:Nat):Int):=by rw [show((k+2:Nat):Int)-3=((k-1:Nat):Int) by omega,kM (by omega)]
   simp only [aW,sM,dT (show(k:Int)<(off v l l.length:Int) by omega),bT,hu,oB,hcl,aA1 h1,qF (show((3:Nat):Int)≠0 by omega),qF (show((3:Nat):Int)≠1 by omega),qF (show((3:Nat):Int)≠2 by omega),qT (show((3:Nat):Int)=3 from rfl),bM,mF (i:=k) (by omega),c1,c2,c4,rdO hj1,rdO hj2,aA0 hj1,dR (f:=gk (Mf d v l) k (k-2)) hkl,rG (f:=gk (Mf d v l) k (k-2)) hkl,aDQ,e1,aA0 hj2,dR (f:=zO (gk (Mf d v l) k) k (iL z0 (k-2) 1) (k-1)) hkl,rG (f:=zO (gk (Mf d v l) k) k (iL z0 (k-2) 1) (k-1)) hkl,e2,e3]
   exact ih
theorem aFY {d:List aG} {f v:List Rat} {l:List aA} (h:ScB d f v l) {K:Nat} (hK:5000≤K):lQ K ⟨d,f,v,l⟩=some (mx (Mf d v l) (off v l l.length) (off v l l.length),mp (qf d (pL f) v l) (off v l l.length)):=by
 have h8:=h.m8
 have hn:=h.n8
 have h4:=qQ (v:=v) (l:=l) l.length
 have hrb:RsB l:=fun r hr=>(h.sb.sl r hr).1
 have e1:=aLm (v:=v) (l:=l) (m:=l.length) (by omega) K (off v l l.length) 0 K (by omega) (by omega)
 have e2:mp (fun j=>if j<0 then j+1 else 0) (off v l l.length)=mp (fun _=>(0:Nat)) (off v l l.length):=bW fun j _=>if_neg (by omega)
 rw [e2] at e1
 have e3:([]::mx (fun _=>z0) 0 (off v l l.length):List (List Rat))=[[]]:=rfl
 rw [e3] at e1
 simp only [Int.natCast_zero] at e1
 have hc:(1+9)*24*l.length≤400000000:=by omega
 have hp0:PB' 1 l.length p0:=fun r _=>⟨Bd.zero,Bd.zero⟩
 have e4:=aE2 (f0:=f) (v0:=v) (p:=p0) h.sb.sd (show d.length≤1000 by omega) h.fbd hrb h.ir (by omega) hp0 (by omega) hc (show 2000≤K by omega)
 rw [←h.fmp] at e4
 have hb:=aDO (p:=p0) h.sb.sd h.fbd hrb h.ir hp0 (by omega) (by omega) (by omega) hc
 have e5:=aMf (d:=d) (f:=f) (v:=v) h.sb.sl hb (by unfold aHq;omega) (by omega) (show 13≤K by omega) (off v l l.length) 0 K (by omega) (by omega)
 have e6:mp (fun j=>if j<0 then rv v l (mp (xM d (pL f) l p0) d.length) j else 0) (off v l l.length)=mp (fun _=>(0:Rat)) (off v l l.length):=bW fun j _=>if_neg (by omega)
 rw [e6] at e5
 simp only [Int.natCast_zero] at e5
 have e7:=aI3 h hK (off v l l.length) 0 K (by omega) (by omega)
 have e8:yQ (gk (Mf d v l) 0) (off v l l.length)=yQ (fun _=>z0) (off v l l.length):=tV fun i c _ _=>if_neg (by omega)
 rw [e8] at e7
 simp only [Int.natCast_zero] at e7
 have e9:yQ (gk (Mf d v l) (off v l l.length)) (off v l l.length)=yQ (Mf d v l) (off v l l.length):=tV fun i c _ hc=>if_pos hc
 rw [e9] at e7
 simp only [lQ,aCj h.sb.sv hrb (show l.length≤1000 by omega) (show 2000≤K by omega),oB,sM,aAJ (z:=(0:Nat)) (n:=off v l l.length) (by omega),aAJ (z:=(0:Rat)) (n:=off v l l.length) (by omega),e1,lL,aAJ (z:=(⟨0,0⟩:aF)) (n:=l.length) (by omega),show mp (fun _=>(⟨0,0⟩:aF)) l.length=mp p0 l.length from rfl,e4,kZ,e5,iU,aGV,e7,kV,aO3]
 rfl
end Go.Proofs.YtcjdedkdoagifaaGreat
set_option linter.unusedVariables false
namespace Go.Proofs.YtcjdedkdoagifaaGreat
/-- A number that is whole when it is multiplied so often. -/
def dn (D e M:Nat) (x:Rat):Prop:=isZ M (x*((D^e:Nat):Rat))
theorem dn.mono {D e M N:Nat} {x:Rat} (h:dn D e M x) (hn:M≤N):dn D e N x:=isZ.mono h hn
theorem dn.zero {D e M:Nat}:dn D e M 0:=⟨0,by rw [Rat.zero_mul];rfl,Nat.zero_le _⟩
theorem dn.add {D e M N:Nat} {x y:Rat} (h:dn D e M x) (k:dn D e N y):dn D e (M+N) (x+y):=by
 unfold dn;rw [Rat.add_mul];exact isZ.add h k
theorem dn.neg {D e M:Nat} {x:Rat} (h:dn D e M x):dn D e M (-x):=by
 obtain⟨q,h1,h2⟩:=h
 exact⟨-q,by rw [Rat.neg_mul,h1,Rat.intCast_neg],by omega⟩
theorem dn.mul {D e e' M N:Nat} {x y:Rat} (h:dn D e M x) (k:dn D e' N y):dn D (e+e') (M*N) (x*y):=by
 have:=isZ.mul h k
 unfold dn
 rw [Nat.pow_add,Rat.natCast_mul]
 have e2:x*y*(((D^e:Nat):Rat)*((D^e':Nat):Rat))=x*((D^e:Nat):Rat)*(y*((D^e':Nat):Rat)):=by
  rw [Rat.mul_assoc,←Rat.mul_assoc y,Rat.mul_comm y,Rat.mul_assoc ((D^e:Nat):Rat),←Rat.mul_assoc]
 rw [e2];exact this
theorem dn.up {D e M:Nat} {x:Rat} (h:dn D e M x):dn D (e+1) (M*D) x:=by
 have h1:dn D 1 D 1:=⟨(D:Int),by rw [Rat.one_mul,Nat.pow_one];rfl,by simp⟩
 have:=h.mul h1
 rwa [Rat.mul_one] at this
structure DD (D:Nat) (d:List aG) (f:Nat→Rat) (l:List aA):Prop where
 pos:1≤D
 inv:∀x∈d,dn D 1 (256*D) x.inv
 fl:∀j,j<d.length→dn D 1 (256*D) (f j)
 tj:∀r∈l,∀t∈r.j,dn D 1 (256*D) t.k
 tt:∀r∈l,∀t∈r.t,dn D 1 (256*D) t.k
 mu:∀r∈l,dn D 1 (256*D) r.mu
theorem aMh {D M:Nat} {j:Nat}:∀(l:List aE),(∀t∈l,dn D 1 M t.k)→dn D 1 (l.length*M) (cf l j)
 |[],_=>dn.zero
 |t::l,h=>by
  have h1:=aMh (j:=j) l fun t ht=>h t (List.mem_cons_of_mem _ ht)
  show dn D 1 ((l.length+1)*M) ((if t.dof=(j:Int) then t.k else 0)+cf l j)
  rw [Nat.succ_mul,Nat.add_comm]
  refine dn.add ?_ h1
  split
  ·exact h t List.mem_cons_self
  ·exact dn.zero
theorem aH5 {D M e P:Nat} {l:List aA} {p:Nat→aF} {j:Nat} (hj:∀r∈l,∀t∈r.j,dn D 1 M t.k) (ht:∀r∈l,∀t∈r.t,dn D 1 M t.k) (hl:RsB l) (hp:∀r,r<l.length→dn D e P (p r).n∧dn D e P (p r).f):∀m,m≤l.length→dn D (1+e) (m*(24*M*P)) (rP l p m j)
 |0,_=>dn.zero
 |m+1,hm=>by
  have h1:=aH5 (j:=j) hj ht hl hp m (by omega)
  have hr:=oA (l:=l) (i:=m) (by omega)
  obtain⟨p1,p2⟩:=hp m (by omega)
  have c1:=(aMh (j:=j) (jA l m).j (hj _ hr)).mono (Nat.mul_le_mul_right M (hl _ hr).1.1)
  have c2:=(aMh (j:=j) (jA l m).t (ht _ hr)).mono (Nat.mul_le_mul_right M (hl _ hr).2.1)
  have h2:=(c1.mul p1).add (c2.mul p2)
  show dn D (1+e) _ (rP l p m j+rcq l p m j)
  rw [Nat.succ_mul]
  exact h1.add (h2.mono (by rw [←Nat.add_mul,←Nat.add_mul];exact Nat.le_refl _))
theorem aLP {D M e A n:Nat} {a:Nat→Rat} (ha:∀j,j<n→dn D e A (a j)):∀(l:List aE) (x:Rat) (X:Nat),(∀t∈l,dn D 1 M t.k)→dn D (1+e) X x→dn D (1+e) (X+l.length*(M*A)) (rtf (mp a n) l x)
 |[],x,X,_,hx=>hx.mono (by simp)
 |t::l,x,X,h,hx=>by
  have h1:dn D (1+e) (M*A) (trm (mp a n) t):=by
   unfold trm
   rw [bV]
   by_cases hc:0≤t.dof∧t.dof<(n:Int)
   ·rw [decide_eq_true hc]
    show dn D (1+e) _ (t.k*pL _ _)
    rw [zU (by omega)]
    exact(h t List.mem_cons_self).mul (ha _ (by omega))
   ·rw [decide_eq_false hc];exact dn.zero
  have:=aLP ha l (x+trm (mp a n) t) (X+M*A) (fun t ht=>h t (List.mem_cons_of_mem _ ht)) (hx.add h1)
  refine this.mono ?_
  rw [List.length_cons,Nat.succ_mul];omega
theorem aOq {D M e A n:Nat} {a:Nat→Rat} (ha:∀j,j<n→dn D e A (a j)) {l:List aE} (hl:l.length≤12) (h:∀t∈l,dn D 1 M t.k):dn D (1+e) (12*(M*A)) (rt l (mp a n)):=
 (aLP ha l 0 0 h dn.zero).mono (by rw [Nat.zero_add];exact Nat.mul_le_mul_right _ hl)
theorem aNt {D e A n k:Nat} {d:List aG} {f:Nat→Rat} {v:List Rat} {l:List aA} {a:Nat→Rat} (h:DD D d f l) (hl:RsB l) (ha:∀j,j<n→dn D e A (a j)) (hk:k<off v l l.length):dn D (1+e) (12*(256*D*A)) (rv v l (mp a n) k):=by
 obtain⟨r,q,h1,h2,h3⟩:=sN l.length k hk
 have hr:=oA h1
 have bj:=aOq ha (hl _ hr).1.1 (h.tj _ hr)
 have bt:=aOq ha (hl _ hr).2.1 (h.tt _ hr)
 rw [rv0 h2 h1 h3]
 split
 ·exact bj
 ·split
  ·exact bt
  ·split
   ·exact bt.neg
   ·exact dn.zero
theorem aEF {D k j:Nat}:dn D 0 1 (ek k j):=by
 unfold ek iL z0
 split
 ·exact⟨1,by rw [Rat.one_mul];rfl,by decide⟩
 ·exact dn.zero
theorem aRl {D:Nat} {d:List aG} {f:Nat→Rat} {v:List Rat} {l:List aA} (h:DD D d f l) {k r:Nat} (hr:r<l.length):dn D 1 (512*D) (pz v l (ek k) r).n∧dn D 1 (512*D) (pz v l (ek k) r).f:=by
 have h0:dn D 1 (1*D) (ek k (off v l r)):=aEF.up
 have hD:=h.pos
 unfold pz
 split
 ·exact⟨h0.mono (by omega),dn.zero⟩
 ·split
  ·refine⟨h0.mono (by omega),?_⟩
   have hb:=aJg (rt (jA l r).t v)
   have c:dn D 0 1 (((-(rt (jA l r).t v).num.sign:Int):Rat)/((1:Int):Rat)):=⟨-(rt (jA l r).t v).num.sign,by
    rw [Rat.div_def,show(((1:Int):Rat))⁻¹=1 by decide+kernel,Nat.pow_zero,Rat.mul_one];exact Rat.mul_one _,by omega⟩
   have:=c.mul ((h.mu _ (oA hr)).mul (aEF (D:=D) (k:=k) (j:=off v l r)))
   exact this.mono (by omega)
  ·refine⟨h0.mono (by omega),?_⟩
   have:=(aEF (D:=D) (k:=k) (j:=off v l r+1)).add (aEF (D:=D) (k:=k) (j:=off v l r+2)).neg
   rw [←Rat.sub_eq_add_neg] at this
   exact this.up.mono (by omega)
theorem aKv {D e P m:Nat} {d:List aG} {f g:Nat→Rat} {l:List aA} {p:Nat→aF} (h:DD D d f l) (hl:RsB l) (hm:l.length≤m) {X:Nat} (hg:∀j,j<d.length→dn D (1+e) X (g j)) (hp:∀r,r<l.length→dn D e P (p r).n∧dn D e P (p r).f):∀j,j<d.length→dn D (1+e+1) ((X+m*(24*(256*D)*P))*(256*D)) (xM d g l p j):=fun j hj=>
 ((hg j hj).add ((aH5 h.tj h.tt hl hp l.length (Nat.le_refl _)).mono (Nat.mul_le_mul_right _ hm))).mul (h.inv _ (aBA hj))
theorem aQF {D k i:Nat} {d:List aG} {f:Nat→Rat} {v:List Rat} {l:List aA} (h:DD D d f l) (hi:i<off v l l.length):dn D 1 (300*D) (zv v l (ek k) i):=by
 obtain⟨r,q,h1,h2,h3⟩:=sN l.length i hi
 have hD:=h.pos
 have u:∀j,dn D 1 (1*D) (ek k j):=fun j=>aEF.up
 rw [zv0 h2 h1 h3]
 split
 ·exact dn.zero
 ·split
  ·exact(u _).mono (by omega)
  ·split
   ·exact(u _).mono (by omega)
   ·have:=((h.mu _ (oA h1)).mul (aEF (D:=D) (k:=k) (j:=i-3))).add ((u (i-2)).add (u (i-1))).neg
    rw [←Rat.sub_eq_add_neg] at this
    exact this.mono (by omega)
theorem four {D:Nat}:12*(256*D*((0+5*(24*(256*D)*(512*D)))*(256*D)))+300*D*D*D*D≤2^50*(D*D*D*D):=by
 have e:12*(256*D*((0+5*(24*(256*D)*(512*D)))*(256*D)))=(12*256*5*24*256*512*256)*(D*D*D*D):=by
  rw [Nat.zero_add]
  simp only [Nat.mul_assoc,Nat.mul_left_comm,Nat.mul_comm]
 have e2:300*D*D*D*D=300*(D*D*D*D):=by simp only [Nat.mul_assoc]
 rw [e,e2]
 generalize D*D*D*D=x
 omega
theorem aP1 {D:Nat} {d:List aG} {f:Nat→Rat} {v:List Rat} {l:List aA} (h:DD D d f l) (hl:RsB l) (hm:l.length≤5) {i k:Nat} (hi:i<off v l l.length):dn D 4 (2^50*(D*D*D*D)) (Mf d v l i k):=by
 have a:=aKv (e:=1) (g:=z0) (X:=0) h hl hm (fun j _=>dn.zero) (fun r hr=>aRl (v:=v) (k:=k) h hr)
 have r:=aNt (v:=v) h hl a hi
 have z:=(aQF (k:=k) h hi).up.up.up
 exact(r.add z).mono four
end Go.Proofs.YtcjdedkdoagifaaGreat
set_option linter.unusedVariables false
namespace Go.Proofs.YtcjdedkdoagifaaGreat
theorem aNh (x:Rat):x*((x.den:Nat):Rat)=(x.num:Rat):=by
 have h:((x.den:Nat):Rat)≠0:=fun e=>x.den_nz (by exact_mod_cast e)
 have e:x=(x.num:Rat)/((x.den:Nat):Rat):=by
  conv=>lhs;rw [←Rat.num_divInt_den x,Rat.divInt_eq_div]
  rfl
 conv=>lhs;lhs;rw [e]
 exact Rat.div_mul_cancel h
theorem aH9:∀xs:List Rat,(∀x∈xs,Bd 8 x)→∃D:Nat,1≤D∧D≤256^xs.length∧∀x∈xs,dn D 1 (256*D) x
 |[],_=>⟨1,Nat.le_refl _,Nat.le_refl _,fun x h=>absurd h List.not_mem_nil⟩
 |x::xs,h=>by
  obtain⟨D,h1,h2,h3⟩:=aH9 xs fun y hy=>h y (List.mem_cons_of_mem _ hy)
  obtain⟨b1,b2⟩:=h x List.mem_cons_self
  have hp:=x.den_pos
  have hle:D*x.den≤256^(xs.length+1):=by
   rw [Nat.pow_succ];exact Nat.mul_le_mul h2 (by omega)
  refine⟨D*x.den,Nat.mul_pos h1 hp,hle,fun y hy=>?_⟩
  rcases List.mem_cons.1 hy with rfl|hy
  ·refine⟨y.num*D,?_,?_⟩
   ·rw [Nat.pow_one,Rat.natCast_mul,Rat.mul_comm (D:Rat),←Rat.mul_assoc,aNh,Rat.intCast_mul];rfl
   ·rw [Int.natAbs_mul,Int.natAbs_natCast]
    refine Nat.le_trans (Nat.mul_le_mul_right D (show y.num.natAbs≤256 by omega)) ?_
    exact Nat.mul_le_mul_left 256 (Nat.le_mul_of_pos_right D hp)
  ·obtain⟨q,q1,q2⟩:=h3 y hy
   refine⟨q*x.den,?_,?_⟩
   ·rw [Nat.pow_one] at q1 ⊢
    rw [Rat.natCast_mul,←Rat.mul_assoc,q1,Rat.intCast_mul];rfl
   ·rw [Int.natAbs_mul,Int.natAbs_natCast,←Nat.mul_assoc]
    exact Nat.mul_le_mul_right _ q2
def aJR (r:aA):List Rat:=r.mu::(r.j.map (·.k)++r.t.map (·.k))
def aL8 (d:List aG) (f:Nat→Rat) (l:List aA):List Rat:=d.map (·.inv)++mp f d.length++l.flatMap aJR
theorem aL2 {r:aA} (h:RB r):(aJR r).length≤25:=by
 have h1:=h.1.1
 have h2:=h.2.1
 unfold aJR
 simp only [List.length_cons,List.length_append,List.length_map]
 omega
theorem aEb:∀l:List aA,RsB l→(l.flatMap aJR).length≤25*l.length
 |[],_=>Nat.le_refl _
 |r::l,h=>by
  have h1:=aEb l fun x hx=>h x (List.mem_cons_of_mem _ hx)
  have h2:=aL2 (h r List.mem_cons_self)
  rw [List.flatMap_cons,List.length_append,List.length_cons]
  omega
theorem aQW {d:List aG} {f:Nat→Rat} {l:List aA} (hd:∀x∈d,Bd 8 x.inv) (hn:d.length≤12) (hf:∀j,j<d.length→Bd 8 (f j)) (hl:RsC l) (hm:l.length≤5):∃D,DD D d f l∧D≤256^149:=by
 have hrb:RsB l:=fun r hr=>(hl r hr).1
 obtain⟨D,h1,h2,h3⟩:=aH9 (aL8 d f l) fun x hx=>by
  unfold aL8 at hx
  rcases List.mem_append.1 hx with hx|hx
  ·rcases List.mem_append.1 hx with hx|hx
   ·obtain⟨y,hy,rfl⟩:=List.mem_map.1 hx
    exact hd y hy
   ·exact zV hf x hx
  ·obtain⟨r,hr,hx⟩:=List.mem_flatMap.1 hx
   unfold aJR at hx
   rcases List.mem_cons.1 hx with rfl|hx
   ·exact(hl r hr).2
   ·rcases List.mem_append.1 hx with hx|hx
    ·obtain⟨t,ht,rfl⟩:=List.mem_map.1 hx
     exact(hl r hr).1.1.2 t ht
    ·obtain⟨t,ht,rfl⟩:=List.mem_map.1 hx
     exact(hl r hr).1.2.2 t ht
 have hlen:(aL8 d f l).length≤149:=by
  have:=aEb l hrb
  unfold aL8
  simp only [List.length_append,List.length_map,bV]
  omega
 have inR:∀r∈l,∀x∈aJR r,x∈aL8 d f l:=fun r hr x hx=>List.mem_append.2 (.inr (List.mem_flatMap.2 ⟨r,hr,hx⟩))
 refine⟨D,⟨h1,fun x hx=>h3 _ (List.mem_append.2 (.inl (List.mem_append.2 (.inl (List.mem_map.2 ⟨x,hx,rfl⟩))))),fun j hj=>h3 _ (List.mem_append.2 (.inl (List.mem_append.2 (.inr (List.mem_map.2 ⟨j,List.mem_range.2 hj,rfl⟩))))),fun r hr t ht=>h3 _ (inR r hr _ ?_),fun r hr t ht=>h3 _ (inR r hr _ ?_),fun r hr=>h3 _ (inR r hr _ List.mem_cons_self)⟩,Nat.le_trans h2 (Nat.pow_le_pow_right (by omega) hlen)⟩
 ·exact List.mem_cons_of_mem _ (List.mem_append.2 (.inl (List.mem_map.2 ⟨t,ht,rfl⟩)))
 ·exact List.mem_cons_of_mem _ (List.mem_append.2 (.inr (List.mem_map.2 ⟨t,ht,rfl⟩)))
def sJ (M:Nat→Nat→Rat) (q:Nat→Rat) (n i c:Nat):Rat:=
 if c<n then(if i=c then 1 else 0) else if c<2*n then -(M i (c-n)) else if c=2*n then -1 else q i
theorem aKi {M:Nat→Nat→Rat} {q:Nat→Rat} {n:Nat}:TI n (2*n+2) (sJ M q n) (sJ M q n) (fun j=>j):=TI.start (by omega) fun i j hi hj=>if_pos hj
theorem aPD {D e:Nat} (h:1≤D):dn D e (D^e) 1:=⟨((D^e:Nat):Int),by rw [Rat.one_mul];rfl,by simp⟩
theorem aQd {D:Nat} {d:List aG} {f:Nat→Rat} {v:List Rat} {l:List aA} (h:DD D d f l) (hl:RsB l) (hm:l.length≤5) {i:Nat} (hi:i<off v l l.length):dn D 4 (2^50*(D*D*D*D)) (qf d f v l i):=by
 have a:=aKv (e:=0) (g:=f) (P:=0) (p:=p0) h hl hm h.fl (fun r hr=>⟨dn.zero,dn.zero⟩)
 have r:=(aNt (v:=v) h hl a hi).up
 refine r.mono ?_
 have e:12*(256*D*((256*D+5*(24*(256*D)*0))*(256*D)))*D=(12*256*256*256)*(D*D*D*D):=by
  simp only [Nat.mul_zero,Nat.add_zero]
  simp only [Nat.mul_assoc,Nat.mul_left_comm,Nat.mul_comm]
 rw [e]
 generalize D*D*D*D=x
 omega
theorem aOF {D:Nat} {d:List aG} {f:Nat→Rat} {v:List Rat} {l:List aA} (h:DD D d f l) (hl:RsB l) (hm:l.length≤5) {i c:Nat} (hi:i<off v l l.length):dn D 4 (2^50*(D*D*D*D)) (sJ (Mf d v l) (qf d f v l) (off v l l.length) i c):=by
 have hD:=h.pos
 have o:dn D 4 (2^50*(D*D*D*D)) (1:Rat):=(aPD hD).mono (by
  have:D^4=D*D*D*D:=by simp [Nat.pow_succ]
  rw [this]
  generalize D*D*D*D=x
  omega)
 unfold sJ
 split
 ·split
  ·exact o
  ·exact dn.zero
 ·split
  ·exact(aP1 h hl hm hi).neg
  ·split
   ·exact o.neg
   ·exact aQd h hl hm hi
end Go.Proofs.YtcjdedkdoagifaaGreat
set_option linter.unusedVariables false
namespace Go.Proofs.YtcjdedkdoagifaaGreat
/-- The rows of a tableau as they lie. -/
structure zB (n w:Nat) (rs:List (List Rat)) (od:Nat→Nat) (T:Nat→Nat→Rat):Prop where
 lt:∀i,i<n→od i<rs.length
 inj:∀i j,i<n→j<n→od i=od j→i=j
 row:∀i,i<n→rs.getD (od i) []=mp (T i) w
def nH (n j:Nat):Nat:=if j=0 then 2*n+1 else j-1
def lx (T:Nat→Nat→Rat) (n i:Nat) (c:Rat) (k:Nat) (d:Rat):Nat→Nat→Bool
 |0,_=>false
 |t+1,j=>bif decide (T i (nH n j)/c=T k (nH n j)/d) then lx T n i c k d t (j+1) else decide (T i (nH n j)/c<T k (nH n j)/d)
def les (T:Nat→Nat→Rat) (n i:Nat) (c:Rat) (k:Nat) (d:Rat):Bool:=lx T n i c k d (n+1) 0
theorem aI9 {m k:Nat} {a b:Rat} (ha:Bd m a) (hb:Bd k b) (hm:m≤1073741824) (hk:k≤1073741824):aFQ a b=some (if a<b then -1 else if b<a then 1 else 0):=by
 unfold aFQ;rw [ha.qs hm,hb.qs hk];rfl
theorem aBT {a b:Rat}:((if a<b then -1 else if b<a then 1 else 0:Int)=0↔a=b)∧decide ((if a<b then -1 else if b<a then 1 else 0:Int)<0)=decide (a<b):=by
 by_cases h:a<b
 ·rw [if_pos h]
  refine⟨⟨fun h2=>absurd h2 (by decide),fun h2=>?_⟩,by rw [decide_eq_true h];rfl⟩
  rw [h2] at h;exact absurd h (Rat.lt_irrefl)
 ·rw [if_neg h]
  by_cases h2:b<a
  ·rw [if_pos h2]
   refine⟨⟨fun h3=>absurd h3 (by decide),fun h3=>?_⟩,by rw [decide_eq_false h];rfl⟩
   rw [h3] at h2;exact absurd h2 (Rat.lt_irrefl)
  ·rw [if_neg h2]
   exact⟨⟨fun _=>Rat.le_antisymm (Rat.not_lt.1 h2) (Rat.not_lt.1 h),fun _=>rfl⟩,by rw [decide_eq_false h];rfl⟩
theorem aIJ {n j:Nat} (h:j≤n):nH n j<2*n+2:=by unfold nH;split<;>omega
theorem aEG {n:Nat} {rs:List (List Rat)} {od:Nat→Nat} {T:Nat→Nat→Rat} (hr:zB n (2*n+2) rs od T) {B C:Nat} (hT:Bdx n (2*n+2) B T) {i k:Nat} (hi:i<n) (hk:k<n) {c d:Rat} (hc:Bd C c) (hd:Bd C d) (hBC:B+C≤500000000) (hn:n≤1000) (K:Nat):
  ∀(t j fu:Nat),j+t=n+1→t<fu→aR K (i:Int) c (k:Int) d (n:Int) (mp od n) rs fu ((j:Int)-1)=some (.ret (lx T n i c k d t j))∨(lx T n i c k d t j=false∧aR K (i:Int) c (k:Int) d (n:Int) (mp od n) rs fu ((j:Int)-1)=some (.go ()))
 |0,j,fu,hj,hf=>by
  obtain⟨fu',rfl,_⟩:=a9 hf
  refine .inr ⟨rfl,?_⟩
  simp only [aR,dF (show¬(j:Int)-1<(n:Int) by omega),bM]
 |t+1,j,fu,hj,hf=>by
  obtain⟨fu',rfl,_⟩:=a9 hf
  have hl:=aIJ (n:=n) (j:=j) (by omega)
  have b1:=(hT i _ hi hl).div hc
  have b2:=(hT k _ hk hl).div hd
  have ih:=aEG hr hT hi hk hc hd hBC hn K t (j+1) fu' (by omega) (by omega)
  have key:dQ K (i:Int) c (k:Int) d (mp od n) rs ((j:Int)-1) (aR K (i:Int) c (k:Int) d (n:Int) (mp od n) rs fu') ((nH n j:Nat):Int)=bif decide (T i (nH n j)/c=T k (nH n j)/d) then aR K (i:Int) c (k:Int) d (n:Int) (mp od n) rs fu' (((j+1:Nat):Int)-1) else some (.ret (decide (T i (nH n j)/c<T k (nH n j)/d))):=by
   simp only [dQ,dR (f:=od) hi,dR (f:=od) hk,oB,hr.row i hi,hr.row k hk,dR (f:=T i) hl,dR (f:=T k) hl,aAw (hT i _ hi hl) hc (by omega) (by omega),aAw (hT k _ hk hl) hd (by omega) (by omega),aI9 b1 b2 (by omega) (by omega)]
   by_cases h:T i (nH n j)/c=T k (nH n j)/d
   ·rw [nF (aBT.1.2 h),bM,decide_eq_true h,bT,kM (by omega),oB]
    congr 1
    omega
   ·rw [nT (fun h2=>h (aBT.1.1 h2)),bT,decide_eq_false h,bM,aBT.2]
  have main:aR K (i:Int) c (k:Int) d (n:Int) (mp od n) rs (fu'+1) ((j:Int)-1)=bif decide (T i (nH n j)/c=T k (nH n j)/d) then aR K (i:Int) c (k:Int) d (n:Int) (mp od n) rs fu' (((j+1:Nat):Int)-1) else some (.ret (decide (T i (nH n j)/c<T k (nH n j)/d))):=by
   rw [←key]
   by_cases h0:j=0
   ·subst h0
    have c1:aP (2*(n:Int))=some (2*(n:Int)):=kM (by omega)
    have c2:aP (2*(n:Int)+1)=some ((nH n 0:Nat):Int):=by
     rw [kM (by omega)];congr 1
    simp only [aR,dT (show((0:Nat):Int)-1<(n:Int) by omega),bT,dT (show((0:Nat):Int)-1<0 by omega),c1,c2,oB]
   ·have e:((nH n j:Nat):Int)=(j:Int)-1:=by unfold nH;rw [if_neg h0];omega
    rw [e]
    simp only [aR,dT (show(j:Int)-1<(n:Int) by omega),bT,dF (show¬(j:Int)-1<0 by omega),bM]
  rw [main]
  have el:lx T n i c k d (t+1) j=bif decide (T i (nH n j)/c=T k (nH n j)/d) then lx T n i c k d t (j+1) else decide (T i (nH n j)/c<T k (nH n j)/d):=rfl
  rw [el]
  by_cases h:T i (nH n j)/c=T k (nH n j)/d
  ·rw [decide_eq_true h,bT,bT];exact ih
  ·rw [decide_eq_false h,bM,bM];exact .inl rfl
theorem aGq {n:Nat} {rs:List (List Rat)} {od:Nat→Nat} {T:Nat→Nat→Rat} {a6:List Int} (hr:zB n (2*n+2) rs od T) {B C:Nat} (hT:Bdx n (2*n+2) B T) {i k:Nat} (hi:i<n) (hk:k<n) {c d:Rat} (hc:Bd C c) (hd:Bd C d) (hBC:B+C≤500000000) (hn:n≤1000) {K:Nat} (hK:2000≤K):dV K (i:Int) c (k:Int) d (n:Int) (mp od n) a6 rs=some (les T n i c k d):=by
 have:=aEG hr hT hi hk hc hd hBC hn K (n+1) 0 K (by omega) (by omega)
 rw [show((0:Nat):Int)-1=-1 from rfl] at this
 rcases this with h|⟨h1,h2⟩
 ·simp only [dV,h,oB];rfl
 ·simp only [dV,h2,oB,gW]
  exact congrArg some h1.symm
def kf (T:Nat→Nat→Rat) (n i:Nat) (c:Rat) (j:Nat):Rat:=T i (nH n j)/c
theorem aIy {n:Nat} {T:Nat→Nat→Rat} {B C i:Nat} {c:Rat} (hT:Bdx n (2*n+2) B T) (hi:i<n) (hc:Bd C c) (hB:B≤1073741824) (hC:C≤1073741824) (hn:n≤1000) (K:Nat):∀(t j fu:Nat),j+t=n→t<fu→lR K (mp (T i) (2*n+2)) (n:Int) c fu (mp (kf T n i c) (j+1)) (j:Int)=some (mp (kf T n i c) (n+1))
 |0,j,fu,hj,hf=>by
  obtain⟨fu',rfl,_⟩:=a9 hf
  have e:j=n:=by omega
  subst e
  simp only [lR,dF (show¬(j:Int)<(j:Int) by omega),bM]
 |t+1,j,fu,hj,hf=>by
  obtain⟨fu',rfl,_⟩:=a9 hf
  have e:kf T n i c (j+1)=T i j/c:=by unfold kf nH;rw [if_neg (by omega),Nat.add_sub_cancel]
  have ap:=apM (g:=kf T n i c) (i:=j+1) (by omega)
  rw [e] at ap
  simp only [lR,dT (show(j:Int)<(n:Int) by omega),bT,dR (f:=T i) (n:=2*n+2) (i:=j) (by omega),oB,aAw (hT i j hi (by omega)) hc hB hC,ap,mF (i:=j) (by omega)]
  exact aIy hT hi hc hB hC hn K t (j+1) fu' (by omega) (by omega)
theorem aFc {n:Nat} {T:Nat→Nat→Rat} {B C i:Nat} {c:Rat} (hT:Bdx n (2*n+2) B T) (hi:i<n) (hc:Bd C c) (hB:B≤1073741824) (hC:C≤1073741824) (hn:n≤1000) {K:Nat} (hK:2000≤K):mR K (mp (T i) (2*n+2)) (n:Int) c=some (mp (kf T n i c) (n+1)):=by
 have:=aIy hT hi hc hB hC hn K n 0 K (by omega) (by omega)
 simp only [Int.natCast_zero] at this
 have c1:aP (2*(n:Int))=some (2*(n:Int)):=kM (by omega)
 have c2:aP (2*(n:Int)+1)=some ((2*n+1:Nat):Int):=by rw [kM (by omega)];congr 1
 have e:[T i (2*n+1)/c]=mp (kf T n i c) (0+1):=rfl
 simp only [mR,c1,c2,oB,dR (f:=T i) (n:=2*n+2) (i:=2*n+1) (by omega),aAw (hT i (2*n+1) hi (by omega)) hc hB hC,e,this,u8]
theorem aEi {n:Nat} {T:Nat→Nat→Rat} {B C i k:Nat} {c d:Rat} (hT:Bdx n (2*n+2) B T) (hi:i<n) (hk:k<n) (hc:Bd C c) (hd:Bd C d) (hBC:B+C≤500000000) (hn:n≤1000) (K:Nat):∀(t j fu:Nat),j+t=n+1→t<fu→hY K (mp (kf T n i c) (n+1)) (mp (kf T n k d) (n+1)) fu (j:Int)=some (.ret (lx T n i c k d t j))∨(lx T n i c k d t j=false∧hY K (mp (kf T n i c) (n+1)) (mp (kf T n k d) (n+1)) fu (j:Int)=some (.go ()))
 |0,j,fu,hj,hf=>by
  obtain⟨fu',rfl,_⟩:=a9 hf
  refine .inr ⟨rfl,?_⟩
  simp only [hY,bV,dF (show¬(j:Int)<((n+1:Nat):Int) by omega),bM]
 |t+1,j,fu,hj,hf=>by
  obtain⟨fu',rfl,_⟩:=a9 hf
  have hl:=aIJ (n:=n) (j:=j) (by omega)
  have b1:Bd (B+C) (kf T n i c j):=(hT i _ hi hl).div hc
  have b2:Bd (B+C) (kf T n k d j):=(hT k _ hk hl).div hd
  have ih:=aEi hT hi hk hc hd hBC hn K t (j+1) fu' (by omega) (by omega)
  have el:lx T n i c k d (t+1) j=bif decide (kf T n i c j=kf T n k d j) then lx T n i c k d t (j+1) else decide (kf T n i c j<kf T n k d j):=rfl
  rw [el]
  simp only [hY,bV,dT (show(j:Int)<((n+1:Nat):Int) by omega),bT,dR (f:=kf T n i c) (n:=n+1) (i:=j) (by omega),dR (f:=kf T n k d) (n:=n+1) (i:=j) (by omega),oB,aI9 b1 b2 (by omega) (by omega)]
  by_cases h:kf T n i c j=kf T n k d j
  ·rw [nF (aBT.1.2 h),bM,decide_eq_true h,bT,mF (i:=j) (by omega),oB];exact ih
  ·rw [nT (fun h2=>h (aBT.1.1 h2)),bT,decide_eq_false h,bM,aBT.2];exact .inl rfl
theorem aEh {n:Nat} {T:Nat→Nat→Rat} {B C i k:Nat} {c d:Rat} (hT:Bdx n (2*n+2) B T) (hi:i<n) (hk:k<n) (hc:Bd C c) (hd:Bd C d) (hBC:B+C≤500000000) (hn:n≤1000) {K:Nat} (hK:2000≤K):mM K (mp (kf T n i c) (n+1)) (mp (kf T n k d) (n+1))=some (les T n i c k d):=by
 have:=aEi hT hi hk hc hd hBC hn K (n+1) 0 K (by omega) (by omega)
 simp only [Int.natCast_zero] at this
 rcases this with h|⟨h1,h2⟩
 ·simp only [mM,h,oB];rfl
 ·simp only [mM,h2,oB,tX]
  exact congrArg some h1.symm
end Go.Proofs.YtcjdedkdoagifaaGreat
set_option linter.unusedVariables false
namespace Go.Proofs.YtcjdedkdoagifaaGreat
def w4 (T:Nat→Nat→Rat) (r c k:Nat):Rat:=T r k/T r c
theorem aGN {n w r c B:Nat} {T:Nat→Nat→Rat} (hT:Bdx n w B T) (hr:r<n) (hc:c<w) (hB:B≤500000000) (hw:w≤100000) (K:Nat):∀(t k fu:Nat),k+t=w→t<fu→kJ K (mx T n w) (r:Int) (c:Int) fu (mp (w4 T r c) k) (k:Int)=some (mp (w4 T r c) w)
 |0,k,fu,hk,hf=>by
  obtain⟨fu',rfl,_⟩:=a9 hf
  have e:k=w:=by omega
  subst e
  simp only [kJ,aA8 (g:=T) (w:=k) hr,oB,bV,dF (show¬(k:Int)<(k:Int) by omega),bM]
 |t+1,k,fu,hk,hf=>by
  obtain⟨fu',rfl,_⟩:=a9 hf
  have hkw:k<w:=by omega
  have ap:=apM (g:=w4 T r c) (i:=k) (by omega)
  simp only [kJ,aA8 (g:=T) (w:=w) hr,oB,bV,dT (show(k:Int)<(w:Int) by omega),bT,dR (f:=T r) hkw,dR (f:=T r) hc,aAw (hT r k hr hkw) (hT r c hr hc) (by omega) (by omega),show T r k/T r c=w4 T r c k from rfl,ap,mF (i:=k) (by omega)]
  exact aGN hT hr hc hB hw K t (k+1) fu' (by omega) (by omega)
theorem aJm {n w r c B k:Nat} {T:Nat→Nat→Rat} (hT:Bdx n w B T) (hr:r<n) (hc:c<w) (hk:k<w):Bd (B+B) (w4 T r c k):=(hT r k hr hk).div (hT r c hr hc)
theorem aGn {n w r c i B:Nat} {T:Nat→Nat→Rat} (hT:Bdx n w B T) (hr:r<n) (hc:c<w) (hi:i<n) (hne:i≠r) (hB:B≤200000000) (hw:w≤100000) (K:Nat):∀(t k fu:Nat),k+t=w→t<fu→kF K (mx T n w) (c:Int) (mp (w4 T r c) w) (i:Int) fu (mp (t5 T r c i) k) (k:Int)=some (mp (t5 T r c i) w)
 |0,k,fu,hk,hf=>by
  obtain⟨fu',rfl,_⟩:=a9 hf
  have e:k=w:=by omega
  subst e
  simp only [kF,bV,dF (show¬(k:Int)<(k:Int) by omega),bM]
 |t+1,k,fu,hk,hf=>by
  obtain⟨fu',rfl,_⟩:=a9 hf
  have hkw:k<w:=by omega
  have ap:=apM (g:=t5 T r c i) (i:=k) (by omega)
  have e:T i k-T i c*w4 T r c k=t5 T r c i k:=by unfold t5 w4;rw [if_neg hne]
  have b:=aJm hT hr hc hkw
  have b2:=hT i c hi hc
  simp only [kF,bV,dT (show(k:Int)<(w:Int) by omega),bT,aA8 (g:=T) (w:=w) hi,oB,dR (f:=T i) hkw,dR (f:=T i) hc,dR (f:=w4 T r c) hkw,oT b2 b (by omega) (by omega),yV (hT i k hi hkw) (b2.mul b) (by omega) (by omega),e,ap,mF (i:=k) (by omega)]
  exact aGn hT hr hc hi hne hB hw K t (k+1) fu' (by omega) (by omega)
theorem aGf {n w r c B:Nat} {T:Nat→Nat→Rat} (hT:Bdx n w B T) (hr:r<n) (hc:c<w) (hB:B≤200000000) (hw:w≤100000) (hn:n≤100000) {K:Nat} (hK:w<K):∀(t i fu:Nat),i+t=n→t<fu→fY K (mx T n w) (r:Int) (c:Int) (mp (w4 T r c) w) fu (mx (t5 T r c) i w) (i:Int)=some (mx (t5 T r c) n w)
 |0,i,fu,hk,hf=>by
  obtain⟨fu',rfl,_⟩:=a9 hf
  have e:i=n:=by omega
  subst e
  simp only [fY,tK,dF (show¬(i:Int)<(i:Int) by omega),bM]
 |t+1,i,fu,hk,hf=>by
  obtain⟨fu',rfl,_⟩:=a9 hf
  have hin:i<n:=by omega
  have ap:qW (mx (t5 T r c) i w) [mp (t5 T r c i) w]=some (mx (t5 T r c) (i+1) w):=apM (g:=fun i=>mp (t5 T r c i) w) (by omega)
  have ih:=aGf hT hr hc hB hw hn hK t (i+1) fu' (by omega) (by omega)
  by_cases e:i=r
  ·have e2:mp (w4 T r c) w=mp (t5 T r c i) w:=bW fun k _=>by unfold t5 w4;rw [if_pos e]
   simp only [fY,tK,dT (show(i:Int)<(n:Int) by omega),bT,qT (show(i:Int)=(r:Int) by omega)]
   rw [e2] at ih ⊢
   simp only [ap,oB,mF (i:=i) (by omega)]
   exact ih
  ·have h82:=aGn hT hr hc hin e hB hw K w 0 K (by omega) hK
   simp only [Int.natCast_zero,y8] at h82
   simp only [fY,tK,dT (show(i:Int)<(n:Int) by omega),bT,qF (show(i:Int)≠(r:Int) by omega),bM,h82,oB,tY,ap,mF (i:=i) (by omega)]
   exact ih
theorem aMp {n w r c B:Nat} {T:Nat→Nat→Rat} (hT:Bdx n w B T) (hr:r<n) (hc:c<w) (hB:B≤200000000) (hw:w≤100000) (hn:n≤100000) {K:Nat} (hK:w+n<K):sT K (mx T n w) (r:Int) (c:Int)=some (mx (t5 T r c) n w):=by
 have e1:=aGN hT hr hc (by omega) hw K w 0 K (by omega) (by omega)
 have e2:=aGf hT hr hc hB hw hn (K:=K) (by omega) n 0 K (by omega) (by omega)
 have e3:mx (t5 T r c) 0 w=[]:=rfl
 rw [e3] at e2
 simp only [Int.natCast_zero,y8] at e1 e2
 simp only [sT,e1,oB,tU,e2,t0]
theorem aPi {xs ys:List Rat} (h:xs.length=ys.length):cpL xs ys=ys:=by
 unfold cpL
 rw [h,Nat.min_self,List.take_length,←h,List.drop_length,List.append_nil]
theorem aDm {rs:List (List Rat)} {o p:Nat} {x:List Rat} (ho:o<rs.length):(rs.set o x).getD p []=if p=o then x else rs.getD p []:=by
 rw [List.getD_eq_getElem?_getD,List.getD_eq_getElem?_getD,List.getElem?_set]
 by_cases h:o=p
 ·subst h;rw [if_pos rfl,if_pos ho,if_pos rfl];rfl
 ·rw [if_neg h,if_neg (fun e=>h e.symm)]
theorem zB.set {n w:Nat} {rs:List (List Rat)} {od:Nat→Nat} {T:Nat→Nat→Rat} (h:zB n w rs od T) {i:Nat} (hi:i<n) (f:Nat→Rat):zB n w (rs.set (od i) (mp f w)) od (iL T i f):=
 ⟨fun j hj=>by rw [List.length_set];exact h.lt j hj,h.inj,fun j hj=>by
  rw [aDm (h.lt i hi)]
  by_cases e:j=i
  ·subst e;rw [if_pos rfl,aX]
  ·rw [if_neg (fun e2=>e (h.inj j i hj hi e2)),cF e]
   exact h.row j hj⟩
theorem zB.congr {n w:Nat} {rs:List (List Rat)} {od:Nat→Nat} {T T':Nat→Nat→Rat} (h:zB n w rs od T) (e:∀i k,i<n→k<w→T i k=T' i k):zB n w rs od T':=
 ⟨h.lt,h.inj,fun i hi=>by rw [h.row i hi];exact bW fun k hk=>e i k hi hk⟩
theorem aHf {w v27 B:Nat} {a5:List (List Rat)} {x22:List Rat} {g:Nat→Rat} {p:Rat} (hx:cpL x22 (a5.getD v27 [])=mp g w) (hg:∀k,k<w→Bd B (g k)) (hp:Bd B p) (hB:B≤1073741824) (hw:w≤100000) (K:Nat):∀(t k fu:Nat),k+t=w→t<fu→cS K a5 x22 v27 p fu (mp (fun j=>if j<k then g j/p else g j) w) (k:Int)=some (mp (fun j=>g j/p) w)
 |0,k,fu,hk,hf=>by
  obtain⟨fu',rfl,_⟩:=a9 hf
  have e:k=w:=by omega
  subst e
  simp only [cS,hx,bV,dF (show¬(k:Int)<(k:Int) by omega),bM]
  exact congrArg some (bW fun j hj=>if_pos hj)
 |t+1,k,fu,hk,hf=>by
  obtain⟨fu',rfl,_⟩:=a9 hf
  have hkw:k<w:=by omega
  have e1:(fun j=>if j<k then g j/p else g j) k=g k:=if_neg (by omega)
  have e2:mp (iL (fun j=>if j<k then g j/p else g j) k (g k/p)) w=mp (fun j=>if j<k+1 then g j/p else g j) w:=bW fun j _=>by
   by_cases e:j=k
   ·subst e;rw [aX,if_pos (by omega)]
   ·rw [cF e]
    by_cases hlt:j<k
    ·rw [if_pos hlt,if_pos (by omega)]
    ·rw [if_neg hlt,if_neg (by omega)]
  simp only [cS,hx,bV,dT (show(k:Int)<(w:Int) by omega),bT,dR (f:=fun j=>if j<k then g j/p else g j) hkw,e1,oB,aAw (hg k hkw) hp hB hB,rG (f:=fun j=>if j<k then g j/p else g j) hkw,e2,mF (i:=k) (by omega)]
  exact aHf hx hg hp hB hw K t (k+1) fu' (by omega) (by omega)
theorem aEN {w o B:Nat} {a5 x66:List (List Rat)} {g q:Nat→Rat} {x:Rat} (ho:o<x66.length) (hne:a5.length≠o) (h66:x66.getD o []=mp g w) (hq:x66.getD a5.length []=mp q w) (hg:∀k,k<w→Bd B (g k)) (hqb:∀k,k<w→Bd (B+B) (q k)) (hx:Bd B x) (hB:B≤200000000) (hw:w≤100000) (K:Nat):∀(t k fu:Nat),k+t=w→t<fu→cP K a5 x66 o x fu (x66.set o (mp (fun j=>if j<k then g j-x*q j else g j) w)) (k:Int)=some (x66.set o (mp (fun j=>g j-x*q j) w))
 |0,k,fu,hk,hf=>by
  obtain⟨fu',rfl,_⟩:=a9 hf
  have e:k=w:=by omega
  subst e
  simp only [cP,h66,bV,dF (show¬(k:Int)<(k:Int) by omega),bM]
  exact congrArg (fun z=>some (x66.set o z)) (bW fun j hj=>if_pos hj)
 |t+1,k,fu,hk,hf=>by
  obtain⟨fu',rfl,_⟩:=a9 hf
  have hkw:k<w:=by omega
  have e1:(fun j=>if j<k then g j-x*q j else g j) k=g k:=if_neg (by omega)
  have e2:mp (iL (fun j=>if j<k then g j-x*q j else g j) k (g k-x*q k)) w=mp (fun j=>if j<k+1 then g j-x*q j else g j) w:=bW fun j _=>by
   by_cases e:j=k
   ·subst e;rw [aX,if_pos (by omega)]
   ·rw [cF e]
    by_cases hlt:j<k
    ·rw [if_pos hlt,if_pos (by omega)]
    ·rw [if_neg hlt,if_neg (by omega)]
  have r1:(x66.set o (mp (fun j=>if j<k then g j-x*q j else g j) w)).getD o []=mp (fun j=>if j<k then g j-x*q j else g j) w:=by rw [aDm ho,if_pos rfl]
  have r2:(x66.set o (mp (fun j=>if j<k then g j-x*q j else g j) w)).getD a5.length []=mp q w:=by rw [aDm ho,if_neg hne];exact hq
  simp only [cP,h66,bV,dT (show(k:Int)<(w:Int) by omega),bT,r1,r2,dR (f:=fun j=>if j<k then g j-x*q j else g j) hkw,dR (f:=q) hkw,e1,oB,oT hx (hqb k hkw) (by omega) (by omega),yV (hg k hkw) (hx.mul (hqb k hkw)) (by omega) (by omega),rG (f:=fun j=>if j<k then g j-x*q j else g j) hkw,e2,List.set_set,mF (i:=k) (by omega)]
  exact aEN ho hne h66 hq hg hqb hx hB hw K t (k+1) fu' (by omega) (by omega)
def pst (T:Nat→Nat→Rat) (r c t i k:Nat):Rat:=if i<t∨i=r then t5 T r c i k else T i k
theorem aLX {T:Nat→Nat→Rat} {r c t:Nat}:∀i k,(iL (pst T r c t) t (t5 T r c t)) i k=pst T r c (t+1) i k:=fun i k=>by
 by_cases e:i=t
 ·subst e;rw [aX];unfold pst;rw [if_pos (.inl (by omega))]
 ·rw [cF e];unfold pst
  by_cases h:i<t∨i=r
  ·rw [if_pos h,if_pos (by omega)]
  ·rw [if_neg h,if_neg (by omega)]
theorem aGY {T:Nat→Nat→Rat} {r c t:Nat} (h:t=r∨T t c=0):∀i k,pst T r c t i k=pst T r c (t+1) i k:=fun i k=>by
 unfold pst
 by_cases h1:i<t∨i=r
 ·rw [if_pos h1,if_pos (by omega)]
 ·rw [if_neg h1]
  by_cases e:i=t
  ·subst e
   have h2:T i c=0:=by rcases h with h|h;exact absurd (.inr h) h1;exact h
   rw [if_pos (.inl (by omega))]
   unfold t5
   rw [if_neg (fun e=>h1 (.inr e)),h2,Rat.zero_mul,Rat.sub_eq_add_neg,Rat.neg_zero,Rat.add_zero]
  ·rw [if_neg (by omega)]
theorem aBk {n w r c B:Nat} {a5:List (List Rat)} {od:Nat→Nat} {T:Nat→Nat→Rat} (hT:Bdx n w B T) (hr:r<n) (hc:c<w) (hor:od r=a5.length) (hB:B≤200000000) (hw:w≤100000) (hn:n≤100000) {K:Nat} (hK:w<K):∀(t i fu:Nat) (rs:List (List Rat)),i+t=n→t<fu→zB n w rs od (pst T r c i)→∃rs',bA K (r:Int) (c:Int) a5 (mp od n) fu rs (i:Int)=some rs'∧zB n w rs' od (t5 T r c)
 |0,i,fu,rs,hk,hf,h=>by
  obtain⟨fu',rfl,_⟩:=a9 hf
  have e:i=n:=by omega
  subst e
  refine⟨rs,by simp only [bA,bV,dF (show¬(i:Int)<(i:Int) by omega),bM],h.congr fun j k hj _=>if_pos (.inl hj)⟩
 |t+1,i,fu,rs,hk,hf,h=>by
  obtain⟨fu',rfl,_⟩:=a9 hf
  have hin:i<n:=by omega
  have hrow:=h.row i hin
  by_cases e:i=r
  ·obtain⟨rs',g1,g2⟩:=aBk hT hr hc hor hB hw hn hK t (i+1) fu' rs (by omega) (by omega) (h.congr fun j k _ _=>aGY (.inl e) j k)
   refine⟨rs',?_,g2⟩
   simp only [bA,bV,dT (show(i:Int)<(n:Int) by omega),bT,dR (f:=od) hin,oB,hrow,dR (f:=pst T r c i i) hc,qT (show(i:Int)=(r:Int) by omega),mF (i:=i) (by omega)]
   exact g1
  ·have ei:pst T r c i i=T i:=by funext k;unfold pst;rw [if_neg (by omega)]
   rw [ei] at hrow
   by_cases hz:T i c=0
   ·obtain⟨rs',g1,g2⟩:=aBk hT hr hc hor hB hw hn hK t (i+1) fu' rs (by omega) (by omega) (h.congr fun j k _ _=>aGY (.inr hz) j k)
    refine⟨rs',?_,g2⟩
    simp only [bA,bV,dT (show(i:Int)<(n:Int) by omega),bT,dR (f:=od) hin,oB,hrow,dR (f:=T i) hc,qF (show(i:Int)≠(r:Int) by omega),bM,kY (hT i c hin hc) (by omega),qT (aBu.2 hz),mF (i:=i) (by omega)]
    exact g1
   ·have hne:a5.length≠od i:=fun h2=>e (h.inj i r hin hr (by rw [←h2,hor]))
    have hq:rs.getD a5.length []=mp (w4 T r c) w:=by
     rw [←hor,h.row r hr]
     exact bW fun k _=>by unfold pst t5 w4;rw [if_pos (.inr rfl),if_pos rfl]
    have h112:=aEN (h.lt i hin) hne hrow hq (fun k hk=>hT i k hin hk) (fun k hk=>aJm hT hr hc hk) (hT i c hin hc) hB hw K w 0 K (by omega) hK
    have e0:rs.set (od i) (mp (fun j=>if j<0 then T i j-T i c*w4 T r c j else T i j) w)=rs:=by
     have e9:mp (fun j=>if j<0 then T i j-T i c*w4 T r c j else T i j) w=rs.getD (od i) []:=by
      rw [hrow];exact bW fun j _=>if_neg (by omega)
     rw [e9,List.getD_eq_getElem?_getD,List.getElem?_eq_getElem (h.lt i hin),Option.getD_some,List.set_getElem_self]
    rw [e0] at h112
    simp only [Int.natCast_zero] at h112
    have e1:mp (fun j=>T i j-T i c*w4 T r c j) w=mp (t5 T r c i) w:=bW fun j _=>by unfold t5 w4;rw [if_neg e]
    rw [e1] at h112
    obtain⟨rs',g1,g2⟩:=aBk hT hr hc hor hB hw hn hK t (i+1) fu' _ (by omega) (by omega) ((h.set hin (t5 T r c i)).congr fun j k _ _=>aLX j k)
    refine⟨rs',?_,g2⟩
    simp only [bA,bV,dT (show(i:Int)<(n:Int) by omega),bT,dR (f:=od) hin,oB,hrow,dR (f:=T i) hc,qF (show(i:Int)≠(r:Int) by omega),bM,kY (hT i c hin hc) (by omega),qF (fun h2=>hz (aBu.1 h2)),h112,gK,mF (i:=i) (by omega)]
    exact g1
theorem aNf {n w r c B:Nat} {rs:List (List Rat)} {od b:Nat→Nat} {T:Nat→Nat→Rat} {a2:Int} (h:zB n w rs od T) (hT:Bdx n w B T) (hr:r<n) (hc:c<w) (hB:B≤200000000) (hw:w≤100000) (hn:n≤100000) {K:Nat} (hK:w+n<K):∃rs' od',gE K (r:Int) (c:Int) a2 (mp od n) (mp (fun i=>((b i:Nat):Int)) n) rs=some (((b r:Nat):Int),mp od' n,mp (fun i=>((iL b r c i:Nat):Int)) n,rs')∧zB n w rs' od' (t5 T r c):=by
 have hrow:=h.row r hr
 have hcp:cpL (mp (fun _=>(0:Rat)) w) (rs.getD (od r) [])=mp (T r) w:=by rw [hrow];exact aPi (by rw [bV,bV])
 have h53:=aHf hcp (fun k hk=>hT r k hr hk) (hT r c hr hc) (by omega) hw K w 0 K (by omega) (by omega)
 have e0:mp (fun j=>if j<0 then T r j/T r c else T r j) w=mp (T r) w:=bW fun j _=>if_neg (by omega)
 rw [e0] at h53
 have h0:zB n w (rs++[mp (w4 T r c) w]) (iL od r rs.length) (pst T r c 0):=by
  refine⟨fun i hi=>?_,fun i j hi hj e=>?_,fun i hi=>?_⟩
  ·by_cases e:i=r
   ·rw [e,aX];simp
   ·rw [cF e];have:=h.lt i hi;simp;omega
  ·by_cases e1:i=r
   ·by_cases e2:j=r
    ·rw [e1,e2]
    ·rw [e1,aX,cF e2] at e;have:=h.lt j hj;omega
   ·by_cases e2:j=r
    ·rw [e2,aX,cF e1] at e;have:=h.lt i hi;omega
    ·rw [cF e1,cF e2] at e;exact h.inj i j hi hj e
  ·by_cases e:i=r
   ·rw [e,aX,List.getD_eq_getElem?_getD,List.getElem?_append_right (Nat.le_refl _),Nat.sub_self]
    show mp (w4 T r c) w=_
    exact bW fun k _=>by unfold pst t5 w4;rw [if_pos (.inr rfl),if_pos rfl]
   ·have hl:=h.lt i hi
    rw [cF e,List.getD_eq_getElem?_getD,List.getElem?_append_left hl,←List.getD_eq_getElem?_getD,h.row i hi]
    exact bW fun k _=>by unfold pst;rw [if_neg (by omega)]
 obtain⟨rs',g1,g2⟩:=aBk (a5:=rs) hT hr hc aX hB hw hn (K:=K) (by omega) n 0 K _ (by omega) (by omega) h0
 simp only [Int.natCast_zero] at h53 g1
 have e3:mp (fun j=>T r j/T r c) w=mp (w4 T r c) w:=rfl
 rw [e3] at h53
 have e4:mp (iL (fun i=>((b i:Nat):Int)) r (c:Int)) n=mp (fun i=>((iL b r c i:Nat):Int)) n:=bW fun i _=>by
  by_cases e:i=r
  ·rw [e,aX,aX]
  ·rw [cF e,cF e]
 refine⟨rs',iL od r rs.length,?_,g2⟩
 simp only [gE,dR (f:=od) hr,oB,hrow,bV,aAJ (z:=(0:Rat)) (n:=w) (by omega)]
 rw [←hrow,hcp]
 simp only [dR (f:=T r) hc,oB,h53,gM,dR (f:=od) hr,rG (f:=od) hr,g1,gL,dR (f:=fun i=>((b i:Nat):Int)) hr,rG (f:=fun i=>((b i:Nat):Int)) hr,e4]
end Go.Proofs.YtcjdedkdoagifaaGreat
set_option linter.unusedVariables false
namespace Go.Proofs.YtcjdedkdoagifaaGreat
def enc (s:Option Nat):Int:=match s with|none=>-1|some r=>(r:Int)
def sel (T:Nat→Nat→Rat) (n c:Nat):Nat→Nat→Option Nat→Option Nat
 |0,_,s=>s
 |t+1,i,s=>bif decide (0<(T i c).num.sign) then(match s with
  |none=>sel T n c t (i+1) (some i)
  |some r=>bif les T n i (T i c) r (T r c) then sel T n c t (i+1) (some i) else sel T n c t (i+1) (some r)) else sel T n c t (i+1) s
theorem xT {T:Nat→Nat→Rat} {n c:Nat}:∀t i s r,(∀q,s=some q→q<i∧0<(T q c).num.sign)→sel T n c t i s=some r→r<i+t∧0<(T r c).num.sign
 |0,i,s,r,h,e=>by have:=h r e;exact⟨by omega,this.2⟩
 |t+1,i,s,r,h,e=>by
  unfold sel at e
  by_cases hp:0<(T i c).num.sign
  ·rw [decide_eq_true hp,bT] at e
   have hi:∀q,some i=some q→q<i+1∧0<(T q c).num.sign:=fun q hq=>by cases hq;exact⟨by omega,hp⟩
   cases s with
   |none=>have:=xT t (i+1) (some i) r hi e;exact⟨by omega,this.2⟩
   |some p=>
    have hs:∀q,some p=some q→q<i+1∧0<(T q c).num.sign:=fun q hq=>by have:=h q hq;exact⟨by omega,this.2⟩
    simp only at e
    cases hl:les T n i (T i c) p (T p c)
    ·rw [hl,bM] at e;have:=xT t (i+1) (some p) r hs e;exact⟨by omega,this.2⟩
    ·rw [hl,bT] at e;have:=xT t (i+1) (some i) r hi e;exact⟨by omega,this.2⟩
  ·rw [decide_eq_false hp,bM] at e
   have:=xT t (i+1) s r (fun q hq=>by have:=h q hq;exact⟨by omega,this.2⟩) e
   exact⟨by omega,this.2⟩
theorem aEt {n c B:Nat} {rs:List (List Rat)} {od:Nat→Nat} {T:Nat→Nat→Rat} {v6:Int×(List Nat)×(List Int)×(List (List Rat))} {x:Int} {bs:List Int} (h6:v6.1=(n:Int)) (h:zB n (2*n+2) rs od T) (hT:Bdx n (2*n+2) B T) (hc:c<2*n+2) (hB:B≤200000000) (hn:n≤1000) {K:Nat} (hK:2000≤K):∀(t i fu:Nat) (s:Option Nat),i+t=n→t<fu→(∀q,s=some q→q<i)→dE K v6 (x,mp od n,bs,rs) (c:Int) fu (enc s) (i:Int)=some (enc (sel T n c t i s))
 |0,i,fu,s,hi,hf,hs=>by
  obtain⟨fu',rfl,_⟩:=a9 hf
  simp only [dE,bV,dF (show¬(i:Int)<(n:Int) by omega),bM,sel]
 |t+1,i,fu,s,hi,hf,hs=>by
  obtain⟨fu',rfl,_⟩:=a9 hf
  have hin:i<n:=by omega
  have hb:=hT i c hin hc
  have ih:=fun s hs=>aEt (x:=x) (bs:=bs) h6 h hT hc hB hn hK t (i+1) fu' s (by omega) (by omega) hs
  simp only [dE,bV,dT (show(i:Int)<(n:Int) by omega),bT,dR (f:=od) hin,oB,h.row i hin,dR (f:=T i) hc,kY hb (by omega),sel]
  by_cases hp:0<(T i c).num.sign
  ·simp only [dT hp,bT]
   cases s with
   |none=>
    simp only [enc,dT (show(-1:Int)<0 by omega),bT,mF (i:=i) (by omega),oB]
    exact ih (some i) (fun q hq=>by cases hq;omega)
   |some p=>
    have hpn:p<n:=by have:=hs p rfl;omega
    have hl:=aGq (a6:=bs) h hT hin hpn hb (hT p c hpn hc) (by omega) hn hK
    simp only [enc,dF (show¬(p:Int)<0 by omega),bM,dR (f:=od) hpn,h.row p hpn,dR (f:=T p) hc,oB,h6,hl]
    cases les T n i (T i c) p (T p c)
    ·simp only [bM,mF (i:=i) (by omega),oB]
     exact ih (some p) (fun q hq=>by have:=hs q hq;omega)
    ·simp only [bT,mF (i:=i) (by omega),oB]
     exact ih (some i) (fun q hq=>by cases hq;omega)
  ·simp only [dF hp,bM,mF (i:=i) (by omega),oB]
   exact ih s (fun q hq=>by have:=hs q hq;omega)
theorem aEE {n c B:Nat} {T:Nat→Nat→Rat} {a1:List Rat} (h1:a1.length=n) (hT:Bdx n (2*n+2) B T) (hc:c<2*n+2) (hB:B≤200000000) (hn:n≤1000) {K:Nat} (hK:2000≤K):∀(t i fu:Nat) (s:Option Nat),i+t=n→t<fu→(∀q,s=some q→q<i)→eG K a1 (mx T n (2*n+2)) (c:Int) fu (enc s) (i:Int)=some (enc (sel T n c t i s))
 |0,i,fu,s,hi,hf,hs=>by
  obtain⟨fu',rfl,_⟩:=a9 hf
  simp only [eG,h1,dF (show¬(i:Int)<(n:Int) by omega),bM,sel]
 |t+1,i,fu,s,hi,hf,hs=>by
  obtain⟨fu',rfl,_⟩:=a9 hf
  have hin:i<n:=by omega
  have hb:=hT i c hin hc
  have ih:=fun s hs=>aEE h1 hT hc hB hn hK t (i+1) fu' s (by omega) (by omega) hs
  simp only [eG,h1,dT (show(i:Int)<(n:Int) by omega),bT,aA8 (g:=T) (w:=2*n+2) hin,oB,dR (f:=T i) hc,kY hb (by omega),sel]
  by_cases hp:0<(T i c).num.sign
  ·simp only [dT hp,dF (show¬(T i c).num.sign≤0 by omega),bT,bM]
   cases s with
   |none=>
    simp only [enc,dT (show(-1:Int)<0 by omega),bT,mF (i:=i) (by omega),oB]
    exact ih (some i) (fun q hq=>by cases hq;omega)
   |some p=>
    have hpn:p<n:=by have:=hs p rfl;omega
    have hbp:=hT p c hpn hc
    have hl:=aEh hT hin hpn hb hbp (by omega) hn hK
    simp only [enc,dF (show¬(p:Int)<0 by omega),bM,aFc hT hin hb (by omega) (by omega) hn hK,aA8 (g:=T) (w:=2*n+2) hpn,dR (f:=T p) hc,oB,aFc hT hpn hbp (by omega) (by omega) hn hK,hl]
    cases les T n i (T i c) p (T p c)
    ·simp only [bM,mF (i:=i) (by omega),oB]
     exact ih (some p) (fun q hq=>by have:=hs q hq;omega)
    ·simp only [bT,mF (i:=i) (by omega),oB]
     exact ih (some i) (fun q hq=>by cases hq;omega)
  ·simp only [dF hp,dT (show(T i c).num.sign≤0 by omega),bT,bM,mF (i:=i) (by omega),oB]
   exact ih s (fun q hq=>by have:=hs q hq;omega)
def swv (T:Nat→Nat→Rat) (b:Nat→Nat) (n:Nat):Nat→Nat→Rat
 |0=>z0
 |i+1=>if b i<n then iL (swv T b n i) (b i) (T i (2*n+1)) else swv T b n i
def zM (T:Nat→Nat→Rat) (b:Nat→Nat) (n:Nat):Nat→Nat→Rat
 |0=>z0
 |i+1=>if b i<n then zM T b n i else if b i<2*n then iL (zM T b n i) (b i-n) (T i (2*n+1)) else zM T b n i
theorem aGy {n:Nat} {rs:List (List Rat)} {od b:Nat→Nat} {T:Nat→Nat→Rat} (h:zB n (2*n+2) rs od T) (hn:n≤1000) (K:Nat):∀(t i fu:Nat),i+t=n→t<fu→bI K (n:Int) (mp od n) (mp (fun i=>((b i:Nat):Int)) n) rs fu (mp (swv T b n i) n) (mp (zM T b n i) n) (i:Int)=some (mp (swv T b n n) n,mp (zM T b n n) n)
 |0,i,fu,hi,hf=>by
  obtain⟨fu',rfl,_⟩:=a9 hf
  have e:i=n:=by omega
  subst e
  simp only [bI,bV,dF (show¬(i:Int)<(i:Int) by omega),bM]
 |t+1,i,fu,hi,hf=>by
  obtain⟨fu',rfl,_⟩:=a9 hf
  have hin:i<n:=by omega
  have ih:=aGy (b:=b) h hn K t (i+1) fu' (by omega) (by omega)
  have c1:aP (2*(n:Int))=some (2*(n:Int)):=kM (by omega)
  have c2:aP (2*(n:Int)+1)=some ((2*n+1:Nat):Int):=by rw [kM (by omega)];congr 1
  simp only [bI,bV,dT (show(i:Int)<(n:Int) by omega),bT,dR (f:=fun i=>((b i:Nat):Int)) hin,dR (f:=od) hin,oB,c1,c2,h.row i hin,dR (f:=T i) (n:=2*n+2) (i:=2*n+1) (by omega)]
  by_cases h1:b i<n
  ·have e1:swv T b n (i+1)=iL (swv T b n i) (b i) (T i (2*n+1)):=if_pos h1
   have e2:zM T b n (i+1)=zM T b n i:=if_pos h1
   rw [e1,e2] at ih
   simp only [dT (show((b i:Nat):Int)<(n:Int) by omega),bT,dR (f:=swv T b n i) h1,rG (f:=swv T b n i) h1,oB,mF (i:=i) (by omega)]
   exact ih
  ·have e1:swv T b n (i+1)=swv T b n i:=if_neg h1
   by_cases h2:b i<2*n
   ·have e2:zM T b n (i+1)=iL (zM T b n i) (b i-n) (T i (2*n+1)):=by
     show(if b i<n then _ else _)=_
     rw [if_neg h1,if_pos h2]
    have c3:aP (((b i:Nat):Int)-(n:Int))=some ((b i-n:Nat):Int):=by rw [show((b i:Nat):Int)-(n:Int)=((b i-n:Nat):Int) by omega,kM (by omega)]
    rw [e1,e2] at ih
    simp only [dF (show¬((b i:Nat):Int)<(n:Int) by omega),bM,dT (show((b i:Nat):Int)<2*(n:Int) by omega),bT,c3,oB,dR (f:=zM T b n i) (n:=n) (i:=b i-n) (by omega),rG (f:=zM T b n i) (n:=n) (i:=b i-n) (by omega),mF (i:=i) (by omega)]
    exact ih
   ·have e2:zM T b n (i+1)=zM T b n i:=by
     show(if b i<n then _ else _)=_
     rw [if_neg h1,if_neg h2]
    rw [e1,e2] at ih
    simp only [dF (show¬((b i:Nat):Int)<(n:Int) by omega),bM,dF (show¬((b i:Nat):Int)<2*(n:Int) by omega),mF (i:=i) (by omega),oB]
    exact ih
theorem aIA {n:Nat} {rs:List (List Rat)} {od b:Nat→Nat} {T:Nat→Nat→Rat} (h:zB n (2*n+2) rs od T) (hn:n≤1000) {K:Nat} (hK:2000≤K):eI K (n:Int) (mp od n) (mp (fun i=>((b i:Nat):Int)) n) rs=some ⟨mp (zM T b n n) n,mp (swv T b n n) n,0⟩:=by
 have:=aGy (b:=b) h hn K n 0 K (by omega) (by omega)
 simp only [Int.natCast_zero] at this
 have e:mp (fun _=>(0:Rat)) n=mp (swv T b n 0) n:=rfl
 have e2:mp (swv T b n 0) n=mp (zM T b n 0) n:=rfl
 simp only [eI,aAJ (z:=(0:Rat)) (n:=n) (by omega),oB,e]
 rw [show bI K (n:Int) (mp od n) (mp (fun i=>((b i:Nat):Int)) n) rs K (mp (swv T b n 0) n) (mp (swv T b n 0) n) 0=_ from this]
 rfl
theorem aEr {n:Nat} {b:Nat→Nat} {T:Nat→Nat→Rat} {a1:List Rat} (h1:a1.length=n) (hb:∀i,i<n→b i<2*n) (hn:n≤1000) (K:Nat):∀(t i fu:Nat),i+t=n→t<fu→fP K a1 (mx T n (2*n+2)) (mp (fun i=>((b i:Nat):Int)) n) fu (mp (swv T b n i) n) (mp (zM T b n i) n) (i:Int)=some (mp (swv T b n n) n,mp (zM T b n n) n)
 |0,i,fu,hi,hf=>by
  obtain⟨fu',rfl,_⟩:=a9 hf
  have e:i=n:=by omega
  subst e
  simp only [fP,h1,dF (show¬(i:Int)<(i:Int) by omega),bM]
 |t+1,i,fu,hi,hf=>by
  obtain⟨fu',rfl,_⟩:=a9 hf
  have hin:i<n:=by omega
  have ih:=aEr (T:=T) h1 hb hn K t (i+1) fu' (by omega) (by omega)
  have c1:aP (2*(n:Int))=some (2*(n:Int)):=kM (by omega)
  have c2:aP (2*(n:Int)+1)=some ((2*n+1:Nat):Int):=by rw [kM (by omega)];congr 1
  have h2:=hb i hin
  simp only [fP,h1,dT (show(i:Int)<(n:Int) by omega),bT,dR (f:=fun i=>((b i:Nat):Int)) hin,oB]
  by_cases h3:b i<n
  ·have e1:swv T b n (i+1)=iL (swv T b n i) (b i) (T i (2*n+1)):=if_pos h3
   have e2:zM T b n (i+1)=zM T b n i:=if_pos h3
   rw [e1,e2] at ih
   simp only [dT (show((b i:Nat):Int)<(n:Int) by omega),bT,aA8 (g:=T) (w:=2*n+2) hin,c1,c2,oB,dR (f:=T i) (n:=2*n+2) (i:=2*n+1) (by omega),dR (f:=swv T b n i) h3,rG (f:=swv T b n i) h3,mF (i:=i) (by omega)]
   exact ih
  ·have e1:swv T b n (i+1)=swv T b n i:=if_neg h3
   have e2:zM T b n (i+1)=iL (zM T b n i) (b i-n) (T i (2*n+1)):=by
    show(if b i<n then _ else _)=_
    rw [if_neg h3,if_pos h2]
   have c3:aP (((b i:Nat):Int)-(n:Int))=some ((b i-n:Nat):Int):=by rw [show((b i:Nat):Int)-(n:Int)=((b i-n:Nat):Int) by omega,kM (by omega)]
   rw [e1,e2] at ih
   simp only [dF (show¬((b i:Nat):Int)<(n:Int) by omega),bM,c3,aA8 (g:=T) (w:=2*n+2) hin,c1,c2,oB,dR (f:=T i) (n:=2*n+2) (i:=2*n+1) (by omega),dR (f:=zM T b n i) (n:=n) (i:=b i-n) (by omega),rG (f:=zM T b n i) (n:=n) (i:=b i-n) (by omega),mF (i:=i) (by omega)]
   exact ih
end Go.Proofs.YtcjdedkdoagifaaGreat
set_option linter.unusedVariables false
namespace Go.Proofs.YtcjdedkdoagifaaGreat
/-- The run from a tableau on. -/
def lem (n most:Nat):Nat→(Nat→Nat→Rat)→(Nat→Nat)→Nat→Nat→Nat→aN×Int
 |0,_,_,_,_,_=>(⟨[],[],0⟩,16)
 |f+1,T,b,r,c,cnt=>
  if cnt=most then(⟨[],[],0⟩,16)
  else if b r=2*n then(⟨mp (zM (t5 T r c) (iL b r c) n n) n,mp (swv (t5 T r c) (iL b r c) n n) n,((cnt+1:Nat):Int)⟩,0)
  else match sel (t5 T r c) n (if b r<n then b r+n else b r-n) n 0 none with
   |none=>(⟨[],[],0⟩,15)
   |some r'=>lem n most f (t5 T r c) (iL b r c) r' (if b r<n then b r+n else b r-n) (cnt+1)
structure LI (n:Nat) (Z T:Nat→Nat→Rat) (b:Nat→Nat) (r c:Nat):Prop where
 ti:TI n (2*n+2) Z T b
 hr:r<n
 hc:c≤2*n
 hp:T r c≠0
 hb:∀j,j<n→b j≤2*n
 fst:c=2*n→b r≠2*n
theorem TI.inj {n w:Nat} {Z T:Nat→Nat→Rat} {b:Nat→Nat} (h:TI n w Z T b) {i j:Nat} (hi:i<n) (hj:j<n) (e:b i=b j):i=j:=by
 by_cases h1:i=j
 ·exact h1
 ·have a:=h.un i i hi hi
  have c:=h.un i j hi hj
  rw [if_pos rfl,e] at a
  rw [if_neg h1,a] at c
  exact absurd c (by decide)
theorem aHU {n x:Nat} (hx:x≤2*n) (hne:x≠2*n):(if x<n then x+n else x-n)<2*n:=by split<;>omega
theorem LI.next {n:Nat} {Z T:Nat→Nat→Rat} {b:Nat→Nat} {r c r':Nat} (h:LI n Z T b r c) (hne:b r≠2*n) (hs:sel (t5 T r c) n (if b r<n then b r+n else b r-n) n 0 none=some r'):LI n Z (t5 T r c) (iL b r c) r' (if b r<n then b r+n else b r-n):=by
 have hlt:=aHU (h.hb r h.hr) hne
 obtain⟨s1,s2⟩:=xT n 0 none r' (fun q hq=>by cases hq) hs
 refine⟨h.ti.pivot h.hr (by have:=h.hc;omega) h.hp,by omega,by omega,fun e=>?_,fun j hj=>?_,fun e=>by omega⟩
 ·rw [e] at s2;exact absurd s2 (by decide)
 ·by_cases e:j=r
  ·rw [e,aX];exact h.hc
  ·rw [cF e];exact h.hb j hj
def Sm (n B:Nat) (Z:Nat→Nat→Rat):Prop:=∀T b,TI n (2*n+2) Z T b→Bdx n (2*n+2) B T
theorem aP3 {n most B:Nat} {Z:Nat→Nat→Rat} {v6:Int×(List Nat)×(List Int)×(List (List Rat))} (h6:v6.1=(n:Int)) (hZ:Sm n B Z) (hB:B≤200000000) (hn:n≤1000) (hm:most≤100000) {K:Nat} (hK:5000≤K):∀(f cnt fu:Nat) (rs:List (List Rat)) (od:Nat→Nat) (T:Nat→Nat→Rat) (b:Nat→Nat) (r c:Nat),cnt+f=most+1→0<f→f≤fu→zB n (2*n+2) rs od T→LI n Z T b r c→
  cX K (most:Int) v6 fu (mp od n) (mp (fun i=>((b i:Nat):Int)) n) rs (r:Int) (c:Int) (cnt:Int)=some (.ret (lem n most f T b r c cnt))
 |0,cnt,fu,rs,od,T,b,r,c,hc,h0,hf,hR,h=>by omega
 |f+1,cnt,fu,rs,od,T,b,r,c,hc,h0,hf,hR,h=>by
  obtain⟨fu',rfl,hf'⟩:=a9 (show f<fu by omega)
  unfold lem
  by_cases e:cnt=most
  ·rw [if_pos e]
   simp only [cX,qT (show(cnt:Int)=(most:Int) by omega),bT]
  ·rw [if_neg e]
   have hcw:=h.hc
   have hT:=hZ T b h.ti
   have ti':=h.ti.pivot h.hr (show c<2*n+2 by omega) h.hp
   have hT':=hZ _ _ ti'
   obtain⟨rs',od',p1,p2⟩:=aNf (b:=b) (a2:=v6.1) hR hT h.hr (show c<2*n+2 by omega) hB (by omega) (by omega) (K:=K) (by omega)
   have hbr:=h.hb r h.hr
   have c1:aP (2*(n:Int))=some (2*(n:Int)):=kM (by omega)
   rw [h6] at p1
   simp only [cX,qF (show(cnt:Int)≠(most:Int) by omega),bM,h6,p1,oB,c1]
   by_cases e2:b r=2*n
   ·rw [if_pos e2]
    simp only [qT (show((b r:Nat):Int)=2*(n:Int) by omega),bT,aIA (b:=iL b r c) p2 hn (show 2000≤K by omega),oB,mF (i:=cnt) (by omega)]
   ·rw [if_neg e2]
    have hlt:=aHU hbr e2
    have c2:aP (((b r:Nat):Int)+(n:Int))=some ((b r+n:Nat):Int):=by rw [kM (by omega)];rfl
    have hsel:=aEt (v6:=v6) (x:=((b r:Nat):Int)) (bs:=mp (fun i=>((iL b r c i:Nat):Int)) n) h6 p2 hT' (show(if b r<n then b r+n else b r-n)<2*n+2 by omega) hB hn (show 2000≤K by omega) n 0 K none (by omega) (by omega) (fun q hq=>by cases hq)
    simp only [Int.natCast_zero,show enc none=(-1:Int) from rfl] at hsel
    have key:hU K v6 (cnt:Int) (((b r:Nat):Int),mp od' n,mp (fun i=>((iL b r c i:Nat):Int)) n,rs') (cX K (most:Int) v6 fu') (((if b r<n then b r+n else b r-n:Nat)):Int)=some (.ret (match sel (t5 T r c) n (if b r<n then b r+n else b r-n) n 0 none with|none=>(⟨[],[],0⟩,15)|some r'=>lem n most f (t5 T r c) (iL b r c) r' (if b r<n then b r+n else b r-n) (cnt+1))):=by
     simp only [hU,hsel,oB,mW]
     cases hs:sel (t5 T r c) n (if b r<n then b r+n else b r-n) n 0 none with
     |none=>rfl
     |some r'=>
      simp only [enc,dF (show¬(r':Int)<0 by omega),bM,mF (i:=cnt) (by omega),oB]
      exact aP3 h6 hZ hB hn hm hK f (cnt+1) fu' rs' od' _ _ r' _ (by omega) (by omega) (by omega) p2 (h.next e2 hs)
    simp only [qF (show((b r:Nat):Int)≠2*(n:Int) by omega),bM,c2,oB]
    by_cases h3:b r<n
    ·rw [if_pos h3] at key
     simp only [dF (show¬(n:Int)≤((b r:Nat):Int) by omega),bM,if_pos h3]
     exact key
    ·rw [if_neg h3] at key
     have c3:aP (((b r:Nat):Int)-(n:Int))=some ((b r-n:Nat):Int):=by rw [show((b r:Nat):Int)-(n:Int)=((b r-n:Nat):Int) by omega,kM (by omega)]
     simp only [dT (show(n:Int)≤((b r:Nat):Int) by omega),bT,c3,oB,if_neg h3]
     exact key
theorem aQk {n most B:Nat} {Z:Nat→Nat→Rat} {a1:List Rat} (h1:a1.length=n) (hZ:Sm n B Z) (hB:B≤200000000) (hn:n≤1000) (hm:most≤100000) {K:Nat} (hK:5000≤K):∀(f cnt fu:Nat) (T:Nat→Nat→Rat) (b:Nat→Nat) (r c:Nat),cnt+f=most+1→0<f→f≤fu→LI n Z T b r c→
  kK K a1 (most:Int) fu (mp (fun i=>((b i:Nat):Int)) n) (mx T n (2*n+2)) (r:Int) (c:Int) (cnt:Int)=some (.ret (lem n most f T b r c cnt))
 |0,cnt,fu,T,b,r,c,hc,h0,hf,h=>by omega
 |f+1,cnt,fu,T,b,r,c,hc,h0,hf,h=>by
  obtain⟨fu',rfl,hf'⟩:=a9 (show f<fu by omega)
  unfold lem
  by_cases e:cnt=most
  ·rw [if_pos e]
   simp only [kK,qT (show(cnt:Int)=(most:Int) by omega),bT]
  ·rw [if_neg e]
   have hcw:=h.hc
   have hr:=h.hr
   have hT:=hZ T b h.ti
   have ti':=h.ti.pivot h.hr (show c<2*n+2 by omega) h.hp
   have hT':=hZ _ _ ti'
   have p1:=aMp hT h.hr (show c<2*n+2 by omega) hB (by omega) (by omega) (K:=K) (by omega)
   have hbr:=h.hb r h.hr
   have c1:aP (2*(n:Int))=some (2*(n:Int)):=kM (by omega)
   have e4:mp (iL (fun i=>((b i:Nat):Int)) r (c:Int)) n=mp (fun i=>((iL b r c i:Nat):Int)) n:=bW fun i _=>by
    by_cases e:i=r
    ·rw [e,aX,aX]
    ·rw [cF e,cF e]
   simp only [kK,qF (show(cnt:Int)≠(most:Int) by omega),bM,p1,oB,mF (i:=cnt) (by omega),dR (f:=fun i=>((b i:Nat):Int)) hr,rG (f:=fun i=>((b i:Nat):Int)) hr,e4,h1,c1]
   by_cases e2:b r=2*n
   ·rw [if_pos e2]
    have hb2:∀i,i<n→iL b r c i<2*n:=fun i hi=>by
     by_cases ei:i=r
     ·rw [ei,aX]
      have:=h.fst
      by_cases ec:c=2*n
      ·exact absurd e2 (this ec)
      ·omega
     ·rw [cF ei]
      have h5:=h.hb i hi
      by_cases e6:b i=2*n
      ·exact absurd (h.ti.inj hi hr (by rw [e6,e2])) ei
      ·omega
    have hs:=aEr (T:=t5 T r c) h1 hb2 hn K n 0 K (by omega) (by omega)
    simp only [Int.natCast_zero] at hs
    have z1:mp (fun _=>(0:Rat)) n=mp (swv (t5 T r c) (iL b r c) n 0) n:=rfl
    have hs':fP K a1 (mx (t5 T r c) n (2*n+2)) (mp (fun i=>((iL b r c i:Nat):Int)) n) K (mp (fun _=>(0:Rat)) n) (mp (fun _=>(0:Rat)) n) 0=some (mp (swv (t5 T r c) (iL b r c) n n) n,mp (zM (t5 T r c) (iL b r c) n n) n):=hs
    simp only [qT (show((b r:Nat):Int)=2*(n:Int) by omega),bT,aAJ (z:=(0:Rat)) (n:=n) (by omega),oB,hs',s7]
   ·rw [if_neg e2]
    have hlt:=aHU hbr e2
    have c2:aP (((b r:Nat):Int)+(n:Int))=some ((b r+n:Nat):Int):=by rw [kM (by omega)];rfl
    have c3:vA ((b r+n:Nat):Int) (2*(n:Int))=some (((if b r<n then b r+n else b r-n:Nat)):Int):=by
     rw [mJ (by omega) (by omega)]
     congr 1
     by_cases h3:b r<n
     ·rw [if_pos h3,Int.emod_eq_of_lt (by omega) (by omega)]
     ·rw [if_neg h3,show((b r+n:Nat):Int)=((b r-n:Nat):Int)+2*(n:Int) by omega,Int.add_emod_right,Int.emod_eq_of_lt (by omega) (by omega)]
    have hsel:=aEE h1 hT' (show(if b r<n then b r+n else b r-n)<2*n+2 by omega) hB hn (show 2000≤K by omega) n 0 K none (by omega) (by omega) (fun q hq=>by cases hq)
    simp only [Int.natCast_zero,show enc none=(-1:Int) from rfl] at hsel
    simp only [qF (show((b r:Nat):Int)≠2*(n:Int) by omega),bM,c2,oB,c3,hsel,s5]
    cases hs:sel (t5 T r c) n (if b r<n then b r+n else b r-n) n 0 none with
    |none=>rfl
    |some r'=>
     simp only [enc,dF (show¬(r':Int)<0 by omega),bM]
     exact aQk h1 hZ hB hn hm hK f (cnt+1) fu' _ _ r' _ (by omega) (by omega) (by omega) (h.next e2 hs)
end Go.Proofs.YtcjdedkdoagifaaGreat
set_option linter.unusedVariables false
namespace Go.Proofs.YtcjdedkdoagifaaGreat
theorem aGK {l:List Rat} {B:Nat} (hl:vH B l) (hB:B≤1073741824) (hn:l.length≤1000) (K:Nat):∀(t i k:Nat),i+t=l.length→t<k→iF K l k (i:Int)=some (.go ())
 |0,i,k,hi,hk=>by
  obtain⟨k',rfl,_⟩:=a9 hk
  simp only [iF,dF (show¬(i:Int)<(l.length:Int) by omega),bM]
 |t+1,i,k,hi,hk=>by
  obtain⟨k',rfl,_⟩:=a9 hk
  simp only [iF,dT (show(i:Int)<(l.length:Int) by omega),bT,aHt (l:=l) (i:=i) (by omega),oB,vI (hl _ (vR (l:=l) (i:=i) (by omega))) hB,Bool.not_true,bM,mF (i:=i) (by omega)]
  exact aGK hl hB hn K t (i+1) k' (by omega) (by omega)
theorem aGx {l:List Rat} {B:Nat} (hl:vH B l) (hB:B≤1073741824) (hn:l.length≤1000) {K:Nat} (hK:l.length<K):mY K l=some true:=by
 have:=aGK hl hB hn K l.length 0 K (by omega) hK
 simp only [Int.natCast_zero] at this
 simp only [mY,this,oB,oP]
theorem aD9 {l:List Rat} {B:Nat} (hl:vH B l) (hB:B≤1073741824) (hn:l.length≤1000) (K:Nat):∀(t i k:Nat),i+t=l.length→t<k→lZ K l k (i:Int)=some (.go ())
 |0,i,k,hi,hk=>by
  obtain⟨k',rfl,_⟩:=a9 hk
  simp only [lZ,dF (show¬(i:Int)<(l.length:Int) by omega),bM]
 |t+1,i,k,hi,hk=>by
  obtain⟨k',rfl,_⟩:=a9 hk
  simp only [lZ,dT (show(i:Int)<(l.length:Int) by omega),bT,aHt (l:=l) (i:=i) (by omega),oB,vI (hl _ (vR (l:=l) (i:=i) (by omega))) hB,Bool.not_true,bM,mF (i:=i) (by omega)]
  exact aD9 hl hB hn K t (i+1) k' (by omega) (by omega)
theorem aEU {l:List Rat} {B:Nat} (hl:vH B l) (hB:B≤1073741824) (hn:l.length≤1000) {K:Nat} (hK:l.length<K):qH K l=some true:=by
 have:=aD9 hl hB hn K l.length 0 K (by omega) hK
 simp only [Int.natCast_zero] at this
 simp only [qH,this,oB,uY]
theorem aEl {M:Nat→Nat→Rat} {q:Nat→Rat} {n B:Nat} (hM:Bdx n n B M) (hB:B≤1073741824) (hn:n≤32) {K:Nat} (hK:100≤K):∀(t i k:Nat),i+t=n→t<k→gT K (mx M n n) (mp q n) k (i:Int)=some (.go ())
 |0,i,k,hi,hk=>by
  obtain⟨k',rfl,_⟩:=a9 hk
  simp only [gT,tK,dF (show¬(i:Int)<(n:Int) by omega),bM]
 |t+1,i,k,hi,hk=>by
  obtain⟨k',rfl,_⟩:=a9 hk
  have hin:i<n:=by omega
  have g:=aGx (l:=mp (M i) n) (zV fun c hc=>hM i c hin hc) hB (by rw [bV];omega) (K:=K) (by rw [bV];omega)
  simp only [gT,tK,dT (show(i:Int)<(n:Int) by omega),bT,aA8 (g:=M) (w:=n) hin,oB,bV,nF (rfl:(n:Int)=(n:Int)),bM,g,Bool.not_true,mF (i:=i) (by omega)]
  exact aEl hM hB hn hK t (i+1) k' (by omega) (by omega)
theorem aEz {M:Nat→Nat→Rat} {q:Nat→Rat} {n B:Nat} (hM:Bdx n n B M) (hq:∀i,i<n→Bd B (q i)) (hB:B≤1073741824) (hn:n≤32) {K:Nat} (hK:100≤K):nR K (mx M n n) (mp q n)=some true:=by
 have g:=aGx (l:=mp q n) (zV hq) hB (by rw [bV];omega) (K:=K) (by rw [bV];omega)
 have e:=aEl (q:=q) hM hB hn hK n 0 K (by omega) (by omega)
 simp only [Int.natCast_zero] at e
 simp only [nR,tK,bV,nF (rfl:(n:Int)=(n:Int)),bM,dF (show¬(32:Int)<(n:Int) by omega),g,oB,Bool.not_true,e,oF]
theorem aCO {M:Nat→Nat→Rat} {q:Nat→Rat} {n B:Nat} (hM:Bdx n n B M) (hB:B≤1073741824) (hn:n≤32) {K:Nat} (hK:100≤K):∀(t i k:Nat),i+t=n→t<k→k6 K (mx M n n) (mp q n) k (i:Int)=some (.go ())
 |0,i,k,hi,hk=>by
  obtain⟨k',rfl,_⟩:=a9 hk
  simp only [k6,tK,dF (show¬(i:Int)<(n:Int) by omega),bM]
 |t+1,i,k,hi,hk=>by
  obtain⟨k',rfl,_⟩:=a9 hk
  have hin:i<n:=by omega
  have g:=aEU (l:=mp (M i) n) (zV fun c hc=>hM i c hin hc) hB (by rw [bV];omega) (K:=K) (by rw [bV];omega)
  simp only [k6,tK,dT (show(i:Int)<(n:Int) by omega),bT,aA8 (g:=M) (w:=n) hin,oB,bV,nF (rfl:(n:Int)=(n:Int)),bM,g,Bool.not_true,mF (i:=i) (by omega)]
  exact aCO hM hB hn hK t (i+1) k' (by omega) (by omega)
theorem aCU {M:Nat→Nat→Rat} {q:Nat→Rat} {n B:Nat} (hM:Bdx n n B M) (hq:∀i,i<n→Bd B (q i)) (hB:B≤1073741824) (hn:n≤32) {K:Nat} (hK:100≤K):sS K (mx M n n) (mp q n)=some true:=by
 have g:=aEU (l:=mp q n) (zV hq) hB (by rw [bV];omega) (K:=K) (by rw [bV];omega)
 have e:=aCO (q:=q) hM hB hn hK n 0 K (by omega) (by omega)
 simp only [Int.natCast_zero] at e
 simp only [sS,tK,bV,nF (rfl:(n:Int)=(n:Int)),bM,dF (show¬(32:Int)<(n:Int) by omega),g,oB,Bool.not_true,e,uR]
def ng (q:Nat→Rat):Nat→Nat→Bool
 |0,_=>false
 |t+1,i=>bif decide ((q i).num.sign<0) then true else ng q t (i+1)
theorem aLs {q:Nat→Rat} {n B:Nat} (hq:∀i,i<n→Bd B (q i)) (hB:B≤1073741824) (hn:n≤1000) (K:Nat):∀(t i k:Nat),i+t=n→t<k→fO K (mp q n) k (i:Int)=some (bif ng q t i then .ret true else .go ())
 |0,i,k,hi,hk=>by
  obtain⟨k',rfl,_⟩:=a9 hk
  simp only [fO,bV,dF (show¬(i:Int)<(n:Int) by omega),bM,ng]
 |t+1,i,k,hi,hk=>by
  obtain⟨k',rfl,_⟩:=a9 hk
  have hin:i<n:=by omega
  simp only [fO,bV,dT (show(i:Int)<(n:Int) by omega),bT,dR (f:=q) hin,oB,kY (hq i hin) hB,ng]
  by_cases h:(q i).num.sign<0
  ·simp only [dT h,bT]
  ·simp only [dF h,bM,mF (i:=i) (by omega),oB]
   exact aLs hq hB hn K t (i+1) k' (by omega) (by omega)
theorem aIq {q:Nat→Rat} {n B:Nat} (hq:∀i,i<n→Bd B (q i)) (hB:B≤1073741824) (hn:n≤1000) (K:Nat):∀(t i k:Nat),i+t=n→t<k→iX K (mp q n) k (i:Int)=some (bif ng q t i then .ret true else .go ())
 |0,i,k,hi,hk=>by
  obtain⟨k',rfl,_⟩:=a9 hk
  simp only [iX,bV,dF (show¬(i:Int)<(n:Int) by omega),bM,ng]
 |t+1,i,k,hi,hk=>by
  obtain⟨k',rfl,_⟩:=a9 hk
  have hin:i<n:=by omega
  simp only [iX,bV,dT (show(i:Int)<(n:Int) by omega),bT,dR (f:=q) hin,oB,kY (hq i hin) hB,ng]
  by_cases h:(q i).num.sign<0
  ·simp only [dT h,bT]
  ·simp only [dF h,bM,mF (i:=i) (by omega),oB]
   exact aIq hq hB hn K t (i+1) k' (by omega) (by omega)
theorem aO1 {q:Nat→Rat} {n B:Nat} (hq:∀i,i<n→Bd B (q i)) (hB:B≤1073741824) (hn:n≤1000) {K:Nat} (hK:n<K):lY K (mp q n)=some (ng q n 0)∧qN K (mp q n)=some (ng q n 0):=by
 have e1:=aLs hq hB hn K n 0 K (by omega) hK
 have e2:=aIq hq hB hn K n 0 K (by omega) hK
 simp only [Int.natCast_zero] at e1 e2
 constructor
 ·simp only [lY,e1,oB,mE]
  cases ng q n 0<;>rfl
 ·simp only [qN,e2,oB,sH]
  cases ng q n 0<;>rfl
def rw1 (M:Nat→Nat→Rat) (n i k c:Nat):Rat:=if n≤c∧c<n+k then -(M i (c-n)) else iL z0 i 1 c
theorem aF3 {M:Nat→Nat→Rat} {n i k:Nat} (hi:i<n):mp (iL (rw1 M n i k) (n+k) (-(M i k))) (2*n+2)=mp (rw1 M n i (k+1)) (2*n+2):=bW fun c _=>by
 by_cases e:c=n+k
 ·subst e;rw [aX];unfold rw1;rw [if_pos ⟨by omega,by omega⟩,Nat.add_sub_cancel_left]
 ·rw [cF e];unfold rw1
  by_cases h:n≤c∧c<n+k
  ·rw [if_pos h,if_pos ⟨h.1,by omega⟩]
  ·rw [if_neg h,if_neg (by omega)]
theorem aIZ {M:Nat→Nat→Rat} {q:Nat→Rat} {n i:Nat} (hi:i<n):mp (iL (iL (rw1 M n i n) (2*n) (-1)) (2*n+1) (q i)) (2*n+2)=mp (sJ M q n i) (2*n+2):=bW fun c hc=>by
 unfold sJ
 by_cases e1:c=2*n+1
 ·subst e1;rw [aX,if_neg (by omega),if_neg (by omega),if_neg (by omega)]
 ·rw [cF e1]
  by_cases e2:c=2*n
  ·subst e2;rw [aX,if_neg (by omega),if_neg (by omega),if_pos rfl]
  ·rw [cF e2]
   unfold rw1
   by_cases h:c<n
   ·rw [if_neg (by omega),if_pos h]
    by_cases e3:c=i
    ·subst e3;rw [aX,if_pos rfl]
    ·rw [cF e3,if_neg (fun e=>e3 e.symm)];rfl
   ·rw [if_pos ⟨by omega,by omega⟩,if_neg h,if_pos (by omega)]
theorem aJf {M:Nat→Nat→Rat} {q:Nat→Rat} {n i B:Nat} (hM:Bdx n n B M) (hB:B≤1073741824) (hi:i<n) (hn:n≤1000) (K:Nat):∀(t k fu:Nat),k+t=n→t<fu→eJ K (mx M n n) (mp q n) (i:Int) fu (mp (rw1 M n i k) (2*n+2)) (k:Int)=some (mp (rw1 M n i n) (2*n+2))
 |0,k,fu,hk,hf=>by
  obtain⟨fu',rfl,_⟩:=a9 hf
  have e:k=n:=by omega
  subst e
  simp only [eJ,bV,dF (show¬(k:Int)<(k:Int) by omega),bM]
 |t+1,k,fu,hk,hf=>by
  obtain⟨fu',rfl,_⟩:=a9 hf
  have hkn:k<n:=by omega
  have c1:aP ((n:Int)+(k:Int))=some ((n+k:Nat):Int):=by rw [kM (by omega)];rfl
  simp only [eJ,bV,dT (show(k:Int)<(n:Int) by omega),bT,c1,oB,aA8 (g:=M) (w:=n) hi,dR (f:=M i) hkn,aBe (hM i k hi hkn) hB,dR (f:=rw1 M n i k) (n:=2*n+2) (i:=n+k) (by omega),rG (f:=rw1 M n i k) (n:=2*n+2) (i:=n+k) (by omega),aF3 hi,mF (i:=k) (by omega)]
  exact aJf hM hB hi hn K t (k+1) fu' (by omega) (by omega)
theorem aGM {M:Nat→Nat→Rat} {q:Nat→Rat} {n i B:Nat} (hM:Bdx n n B M) (hB:B≤1073741824) (hi:i<n) (hn:n≤1000) (K:Nat):∀(t k fu:Nat),k+t=n→t<fu→jT K (mx M n n) (mp q n) (i:Int) fu (mp (rw1 M n i k) (2*n+2)) (k:Int)=some (mp (rw1 M n i n) (2*n+2))
 |0,k,fu,hk,hf=>by
  obtain⟨fu',rfl,_⟩:=a9 hf
  have e:k=n:=by omega
  subst e
  simp only [jT,bV,dF (show¬(k:Int)<(k:Int) by omega),bM]
 |t+1,k,fu,hk,hf=>by
  obtain⟨fu',rfl,_⟩:=a9 hf
  have hkn:k<n:=by omega
  have c1:aP ((n:Int)+(k:Int))=some ((n+k:Nat):Int):=by rw [kM (by omega)];rfl
  simp only [jT,bV,dT (show(k:Int)<(n:Int) by omega),bT,c1,oB,aA8 (g:=M) (w:=n) hi,dR (f:=M i) hkn,aBe (hM i k hi hkn) hB,dR (f:=rw1 M n i k) (n:=2*n+2) (i:=n+k) (by omega),rG (f:=rw1 M n i k) (n:=2*n+2) (i:=n+k) (by omega),aF3 hi,mF (i:=k) (by omega)]
  exact aGM hM hB hi hn K t (k+1) fu' (by omega) (by omega)
theorem aRc:zJ (-1) 1=some (-1):=by
 rw [aHC (by omega) (by omega)]
 exact congrArg some (by decide+kernel)
theorem aL3 {M:Nat→Nat→Rat} {q:Nat→Rat} {n B:Nat} (hM:Bdx n n B M) (hB:B≤1073741824) (hn:n≤1000) {K:Nat} (hK:n<K):∀(t i fu:Nat),i+t=n→t<fu→dY K (mx M n n) (mp q n) fu (mp (fun j=>((j:Nat):Int)) i) (mp (fun j=>j) i) (mx (sJ M q n) i (2*n+2)) (i:Int)=some (mp (fun j=>((j:Nat):Int)) n,mp (fun j=>j) n,mx (sJ M q n) n (2*n+2))
 |0,i,fu,hi,hf=>by
  obtain⟨fu',rfl,_⟩:=a9 hf
  have e:i=n:=by omega
  subst e
  simp only [dY,bV,dF (show¬(i:Int)<(i:Int) by omega),bM]
 |t+1,i,fu,hi,hf=>by
  obtain⟨fu',rfl,_⟩:=a9 hf
  have hin:i<n:=by omega
  have c1:aP (2*(n:Int))=some ((2*n:Nat):Int):=by rw [kM (by omega)];rfl
  have c2:aP (((2*n:Nat):Int)+2)=some ((2*n+2:Nat):Int):=by rw [kM (by omega)];rfl
  have c3:aP (((2*n:Nat):Int)+1)=some ((2*n+1:Nat):Int):=by rw [kM (by omega)];rfl
  have e116:=aJf (q:=q) hM hB hin hn K n 0 K (by omega) hK
  have e0:mp (rw1 M n i 0) (2*n+2)=mp (iL z0 i 1) (2*n+2):=bW fun c _=>if_neg (by omega)
  rw [e0] at e116
  simp only [Int.natCast_zero] at e116
  have a1:qW (mp (fun j=>j) i) [i]=some (mp (fun j=>j) (i+1)):=apM (g:=fun j=>j) (by omega)
  have a2:qW (mp (fun j=>((j:Nat):Int)) i) [(i:Int)]=some (mp (fun j=>((j:Nat):Int)) (i+1)):=apM (g:=fun j=>((j:Nat):Int)) (by omega)
  have a3:mx (sJ M q n) i (2*n+2)++[mp (sJ M q n i) (2*n+2)]=mx (sJ M q n) (i+1) (2*n+2):=(aCJ (fun i=>mp (sJ M q n i) (2*n+2)) i).symm
  simp only [dY,bV,dT (show(i:Int)<(n:Int) by omega),bT,c1,c2,aAJ (z:=(0:Rat)) (n:=2*n+2) (by omega),aGV,oB,dR (f:=fun _=>(0:Rat)) (n:=2*n+2) (i:=i) (by omega),rG (f:=fun _=>(0:Rat)) (n:=2*n+2) (i:=i) (by omega),show iL (fun _=>(0:Rat)) i 1=iL z0 i 1 from rfl,e116,kW,aRc,dR (f:=rw1 M n i n) (n:=2*n+2) (i:=2*n) (by omega),rG (f:=rw1 M n i n) (n:=2*n+2) (i:=2*n) (by omega),c3,dR (f:=q) hin,dR (f:=iL (rw1 M n i n) (2*n) (-1)) (n:=2*n+2) (i:=2*n+1) (by omega),rG (f:=iL (rw1 M n i n) (2*n) (-1)) (n:=2*n+2) (i:=2*n+1) (by omega),aIZ hin,tK,a1,a2,a3,mF (i:=i) (by omega)]
  exact aL3 hM hB hn hK t (i+1) fu' (by omega) (by omega)
theorem aIu {M:Nat→Nat→Rat} {q:Nat→Rat} {n B:Nat} (hM:Bdx n n B M) (hB:B≤1073741824) (hn:n≤1000) {K:Nat} (hK:n<K):∀(t i fu:Nat),i+t=n→t<fu→kI K (mx M n n) (mp q n) 1 fu (mp (fun j=>((j:Nat):Int)) i) (mx (sJ M q n) i (2*n+2)) (i:Int)=some (mp (fun j=>((j:Nat):Int)) n,mx (sJ M q n) n (2*n+2))
 |0,i,fu,hi,hf=>by
  obtain⟨fu',rfl,_⟩:=a9 hf
  have e:i=n:=by omega
  subst e
  simp only [kI,bV,dF (show¬(i:Int)<(i:Int) by omega),bM]
 |t+1,i,fu,hi,hf=>by
  obtain⟨fu',rfl,_⟩:=a9 hf
  have hin:i<n:=by omega
  have c1:aP (2*(n:Int))=some ((2*n:Nat):Int):=by rw [kM (by omega)];rfl
  have c2:aP (((2*n:Nat):Int)+2)=some ((2*n+2:Nat):Int):=by rw [kM (by omega)];rfl
  have c3:aP (((2*n:Nat):Int)+1)=some ((2*n+1:Nat):Int):=by rw [kM (by omega)];rfl
  have e318:=aGM (q:=q) hM hB hin hn K n 0 K (by omega) hK
  have e0:mp (rw1 M n i 0) (2*n+2)=mp (iL z0 i 1) (2*n+2):=bW fun c _=>if_neg (by omega)
  rw [e0] at e318
  simp only [Int.natCast_zero] at e318
  have a2:qW (mp (fun j=>((j:Nat):Int)) i) [(i:Int)]=some (mp (fun j=>((j:Nat):Int)) (i+1)):=apM (g:=fun j=>((j:Nat):Int)) (by omega)
  have a3:qW (mx (sJ M q n) i (2*n+2)) [mp (sJ M q n i) (2*n+2)]=some (mx (sJ M q n) (i+1) (2*n+2)):=apM (g:=fun i=>mp (sJ M q n i) (2*n+2)) (by omega)
  simp only [kI,bV,dT (show(i:Int)<(n:Int) by omega),bT,c1,c2,aAJ (z:=(0:Rat)) (n:=2*n+2) (by omega),oB,dR (f:=fun _=>(0:Rat)) (n:=2*n+2) (i:=i) (by omega),rG (f:=fun _=>(0:Rat)) (n:=2*n+2) (i:=i) (by omega),show iL (fun _=>(0:Rat)) i 1=iL z0 i 1 from rfl,e318,sZ,aRc,dR (f:=rw1 M n i n) (n:=2*n+2) (i:=2*n) (by omega),rG (f:=rw1 M n i n) (n:=2*n+2) (i:=2*n) (by omega),c3,dR (f:=q) hin,dR (f:=iL (rw1 M n i n) (2*n) (-1)) (n:=2*n+2) (i:=2*n+1) (by omega),rG (f:=iL (rw1 M n i n) (2*n) (-1)) (n:=2*n+2) (i:=2*n+1) (by omega),aIZ hin,a2,a3,mF (i:=i) (by omega)]
  exact aIu hM hB hn hK t (i+1) fu' (by omega) (by omega)
end Go.Proofs.YtcjdedkdoagifaaGreat
set_option linter.unusedVariables false
namespace Go.Proofs.YtcjdedkdoagifaaGreat
theorem aIU {T:Nat→Nat→Rat} {n i:Nat} {c:Rat}:∀t j,lx T n i c i c t j=false
 |0,_=>rfl
 |t+1,j=>by unfold lx;rw [decide_eq_true (rfl:T i (nH n j)/c=T i (nH n j)/c),bT];exact aIU t (j+1)
def x0 (T:Nat→Nat→Rat) (n:Nat):Nat→Nat→Nat→Nat
 |0,_,r=>r
 |t+1,i,r=>bif les T n i 1 r 1 then x0 T n t (i+1) i else x0 T n t (i+1) r
theorem aAu {T:Nat→Nat→Rat} {n:Nat}:∀t i r,r<n→i+t≤n→x0 T n t i r<n
 |0,i,r,hr,_=>hr
 |t+1,i,r,hr,h=>by
  unfold x0
  cases les T n i 1 r 1
  ·exact aAu t (i+1) r hr (by omega)
  ·exact aAu t (i+1) i (by omega) (by omega)
theorem aKB {n B:Nat} {rs:List (List Rat)} {od:Nat→Nat} {T:Nat→Nat→Rat} {bs:List Int} (h:zB n (2*n+2) rs od T) (hT:Bdx n (2*n+2) B T) (hB:B≤200000000) (hn:n≤1000) {K:Nat} (hK:2000≤K):∀(t i fu r:Nat),i+t=n→t<fu→r<n→fL K ((n:Int),mp od n,bs,rs) 1 fu (r:Int) (i:Int)=some ((x0 T n t i r:Nat):Int)
 |0,i,fu,r,hi,hf,hr=>by
  obtain⟨fu',rfl,_⟩:=a9 hf
  simp only [fL,dF (show¬(i:Int)<(n:Int) by omega),bM,x0]
 |t+1,i,fu,r,hi,hf,hr=>by
  obtain⟨fu',rfl,_⟩:=a9 hf
  have hin:i<n:=by omega
  simp only [fL,dT (show(i:Int)<(n:Int) by omega),bT,aGq (a6:=bs) h hT hin hr zT zT (show B+8≤500000000 by omega) hn hK,oB,mF (i:=i) (by omega),x0]
  cases les T n i 1 r 1
  ·simp only [bM];exact aKB h hT hB hn hK t (i+1) fu' r (by omega) (by omega) hr
  ·simp only [bT];exact aKB h hT hB hn hK t (i+1) fu' i (by omega) (by omega) hin
theorem aKs {n B:Nat} {T:Nat→Nat→Rat} {a1:List Rat} (h1:a1.length=n) (hT:Bdx n (2*n+2) B T) (hB:B≤200000000) (hn:n≤1000) {K:Nat} (hK:2000≤K):∀(t i fu r:Nat),i+t=n→t<fu→r<n→iA K a1 1 (mx T n (2*n+2)) fu (r:Int) (i:Int)=some ((x0 T n t i r:Nat):Int)
 |0,i,fu,r,hi,hf,hr=>by
  obtain⟨fu',rfl,_⟩:=a9 hf
  simp only [iA,h1,dF (show¬(i:Int)<(n:Int) by omega),bM,x0]
 |t+1,i,fu,r,hi,hf,hr=>by
  obtain⟨fu',rfl,_⟩:=a9 hf
  have hin:i<n:=by omega
  simp only [iA,h1,dT (show(i:Int)<(n:Int) by omega),bT,aA8 (g:=T) (w:=2*n+2) hin,aA8 (g:=T) (w:=2*n+2) hr,oB,aFc hT hin zT (by omega) (by omega) hn hK,aFc hT hr zT (by omega) (by omega) hn hK,aEh hT hin hr zT zT (show B+8≤500000000 by omega) hn hK,mF (i:=i) (by omega),x0]
  cases les T n i 1 r 1
  ·simp only [bM];exact aKs h1 hT hB hn hK t (i+1) fu' r (by omega) (by omega) hr
  ·simp only [bT];exact aKs h1 hT hB hn hK t (i+1) fu' i (by omega) (by omega) hin
theorem aCC {q:Nat→Rat} {n:Nat} (h:ng q n 0=true):0<n:=by
 cases n with
 |zero=>exact absurd (show false=true from h) (by decide)
 |succ m=>exact Nat.succ_pos m
def uU (M:Nat→Nat→Rat) (q:Nat→Rat) (n most:Nat):aN×Int:=
 bif ng q n 0 then lem n most (most+1) (sJ M q n) (fun j=>j) (x0 (sJ M q n) n n 0 0) (2*n) 0 else(⟨mp z0 n,mp q n,0⟩,0)
theorem aEZ {M:Nat→Nat→Rat} {q:Nat→Rat} {n r:Nat} (hr:r<n):LI n (sJ M q n) (sJ M q n) (fun j=>j) r (2*n):=by
 refine⟨aKi,hr,Nat.le_refl _,?_,fun j hj=>by omega,fun _=>by omega⟩
 unfold sJ
 rw [if_neg (by omega),if_neg (by omega),if_pos rfl];decide
theorem aFh {T:Nat→Nat→Rat} {n w:Nat}:zB n w (mx T n w) (fun j=>j) T:=
 ⟨fun i hi=>by rw [tK];exact hi,fun i j _ _ e=>e,fun i hi=>by unfold mx;rw [List.getD_eq_getElem?_getD,aAd hi];rfl⟩
theorem aL6 {M:Nat→Nat→Rat} {q:Nat→Rat} {n:Nat}:∀i,i≤n→swv (sJ M q n) (fun j=>j) n i=(fun j=>if j<i then q j else 0)∧zM (sJ M q n) (fun j=>j) n i=z0
 |0,_=>⟨funext fun j=>by show(0:Rat)=_;rw [if_neg (show¬j<0 by omega)],rfl⟩
 |i+1,h=>by
  obtain⟨e1,e2⟩:=aL6 (M:=M) (q:=q) (n:=n) i (by omega)
  have e3:sJ M q n i (2*n+1)=q i:=by unfold sJ;rw [if_neg (show¬2*n+1<n by omega),if_neg (show¬2*n+1<2*n by omega),if_neg (show¬2*n+1=2*n by omega)]
  unfold swv zM
  rw [if_pos (show i<n by omega),if_pos (show i<n by omega),e1,e2,e3]
  refine⟨funext fun j=>?_,rfl⟩
  by_cases e:j=i
  ·subst e;rw [aX,if_pos (by omega)]
  ·rw [cF e]
   by_cases e4:j<i
   ·rw [if_pos e4,if_pos (by omega)]
   ·rw [if_neg e4,if_neg (by omega)]
theorem aJz {M:Nat→Nat→Rat} {q:Nat→Rat} {n B most:Nat} (hM:Bdx n n B M) (hq:∀i,i<n→Bd B (q i)) (hZ:Sm n B (sJ M q n)) (hB:B≤200000000) (hn:n≤32) (hm:most≤100000) {K:Nat} (hK:5000≤K) (hK2:most<K):
  mA K (mx M n n) (mp q n) (most:Int)=some (uU M q n most)∧pU K (mx M n n) (mp q n) (most:Int)=some (uU M q n most):=by
 have hng:=aO1 hq (by omega) (show n≤1000 by omega) (show n<K by omega)
 have hT:=hZ _ _ aKi
 have s1:=aL3 (q:=q) hM (by omega) (show n≤1000 by omega) (show n<K by omega) n 0 K (by omega) (by omega)
 have s2:=aIu (q:=q) hM (by omega) (show n≤1000 by omega) (show n<K by omega) n 0 K (by omega) (by omega)
 have z1:mp (fun j=>((j:Nat):Int)) 0=[]:=rfl
 have z2:mp (fun j:Nat=>j) 0=[]:=rfl
 have z3:mx (sJ M q n) 0 (2*n+2)=[]:=rfl
 simp only [Int.natCast_zero,z1,z2,z3] at s1 s2
 have st:lT K (mx M n n) (mp q n)=some ((n:Int),mp (fun j=>j) n,mp (fun j=>((j:Nat):Int)) n,mx (sJ M q n) n (2*n+2)):=by
  simp only [lT,s1,oB,lN,bV]
 have c1:aP (2*(n:Int))=some ((2*n:Nat):Int):=by rw [kM (by omega)];rfl
 by_cases hneg:ng q n 0=true
 ·have hn0:=aCC hneg
  have hr:=aAu (T:=sJ M q n) n 0 0 hn0 (by omega)
  have l1:=aKB (bs:=mp (fun j=>((j:Nat):Int)) n) (aFh (T:=sJ M q n)) hT hB (show n≤1000 by omega) (show 2000≤K by omega) n 0 K 0 (by omega) (by omega) hn0
  have l2:=aKs (a1:=mp q n) (bV _ _) hT hB (show n≤1000 by omega) (show 2000≤K by omega) (n-1) 1 K 0 (by omega) (by omega) hn0
  have e0:x0 (sJ M q n) n (n-1) 1 0=x0 (sJ M q n) n n 0 0:=by
   obtain⟨m,rfl⟩:∃m,n=m+1:=⟨n-1,by omega⟩
   have e:les (sJ M q (m+1)) (m+1) 0 1 0 1=false:=aIU _ _
   have e2:x0 (sJ M q (m+1)) (m+1) (m+1) 0 0=bif les (sJ M q (m+1)) (m+1) 0 1 0 1 then x0 (sJ M q (m+1)) (m+1) m 1 0 else x0 (sJ M q (m+1)) (m+1) m 1 0:=rfl
   rw [e2,e,bM];rfl
  rw [e0] at l2
  simp only [Int.natCast_zero,Int.natCast_one] at l1 l2
  have r1:=aP3 (v6:=((n:Int),mp (fun j=>j) n,mp (fun j=>((j:Nat):Int)) n,mx (sJ M q n) n (2*n+2))) rfl hZ hB (show n≤1000 by omega) hm hK (most+1) 0 K _ _ _ _ _ _ (by omega) (by omega) (by omega) aFh (aEZ (M:=M) (q:=q) hr)
  have r2:=aQk (a1:=mp q n) (bV _ _) hZ hB (show n≤1000 by omega) hm hK (most+1) 0 K _ _ _ _ (by omega) (by omega) (by omega) (aEZ (M:=M) (q:=q) hr)
  simp only [Int.natCast_zero] at r1 r2
  constructor
  ·simp only [mA,aEz hM hq (show B≤1073741824 by omega) hn (show 100≤K by omega),oB,Bool.not_true,bM,dF (show¬(most:Int)<0 by omega),st,hng.1,hneg,aGV,l1,nG,c1,r1,uU,bT]
  ·simp only [pU,aCU hM hq (show B≤1073741824 by omega) hn (show 100≤K by omega),oB,Bool.not_true,bM,dF (show¬(most:Int)<0 by omega),hng.2,hneg,aGV,s2,tT,l2,tZ,bV,c1,r2,uU,bT]
 ·have hneg':ng q n 0=false:=by cases h:ng q n 0 with|true=>exact absurd h hneg|false=>rfl
  obtain⟨e1,e2⟩:=aL6 (M:=M) (q:=q) (n:=n) n (Nat.le_refl _)
  have ps:=aIA (b:=fun j=>j) (aFh (T:=sJ M q n) (n:=n) (w:=2*n+2)) (show n≤1000 by omega) (show 2000≤K by omega)
  rw [e1,e2,bW (f:=fun j=>if j<n then q j else 0) (g:=q) fun i hi=>if_pos hi] at ps
  constructor
  ·simp only [mA,aEz hM hq (show B≤1073741824 by omega) hn (show 100≤K by omega),oB,Bool.not_true,bM,dF (show¬(most:Int)<0 by omega),st,hng.1,hneg',Bool.not_false,bT,ps,uU]
  ·simp only [pU,aCU hM hq (show B≤1073741824 by omega) hn (show 100≤K by omega),oB,Bool.not_true,bM,dF (show¬(most:Int)<0 by omega),hng.2,hneg',Bool.not_false,bT,bV,aAJ (z:=(0:Rat)) (n:=n) (by omega),uU]
   rfl
end Go.Proofs.YtcjdedkdoagifaaGreat
set_option linter.unusedVariables false
namespace Go.Proofs.YtcjdedkdoagifaaGreat
/-- The first numbers, then zeros. -/
def tz (z:Nat→Rat) (k:Nat):Nat→Rat:=fun j=>if j<k then z j else 0
theorem aCl {z:Nat→Rat} {k j:Nat} (h:j≠k):tz z (k+1) j=tz z k j:=by
 unfold tz
 by_cases e:j<k
 ·rw [if_pos e,if_pos (by omega)]
 ·rw [if_neg e,if_neg (by omega)]
theorem aH4 {z:Nat→Rat} {k j:Nat} (h:j=k):tz z (k+1) j=z k:=by
 subst h;unfold tz;rw [if_pos (Nat.lt_succ_self _)]
theorem aBn {z:Nat→Rat} {k j:Nat} (h:k≤j):tz z k j=0:=by
 unfold tz;rw [if_neg (by omega)]
theorem aQL {z:Nat→Rat} {k C:Nat} {n:Nat} (hC:1≤C) (h:∀j,j<n→Bd C (z j)):∀j,j<n→Bd C (tz z k j):=fun j hj=>by
 unfold tz;split
 ·exact h j hj
 ·exact Bd.zero.mono hC
theorem aCi {v:List Rat} {l:List aA} {z:Nat→Rat} {k r r' q:Nat} (hq:vq v l r q) (hk:k=off v l r+q) (ne:r'≠r):pz v l (tz z (k+1)) r'=pz v l (tz z k) r':=by
 have e:∀q',vq v l r' q'→tz z (k+1) (off v l r'+q')=tz z k (off v l r'+q'):=fun q' h'=>aCl fun e=>ne (aCK h' hq (by omega)).1
 have e0:tz z (k+1) (off v l r')=tz z k (off v l r'):=e 0 (.inl rfl)
 unfold pz
 rw [e0]
 by_cases ht:(jA l r').t.length=0
 ·rw [if_pos ht,if_pos ht]
 ·rw [if_neg ht,if_neg ht]
  by_cases hs:(rt (jA l r').t v).num.sign=0
  ·have hst:yS v (jA l r')=true:=by
    unfold yS;rw [decide_eq_true (show 0<(jA l r').t.length by omega),decide_eq_true hs];rfl
   rw [if_neg (fun h=>h hs),if_neg (fun h=>h hs),e 1 (.inr ⟨hst,by omega⟩),e 2 (.inr ⟨hst,by omega⟩)]
  ·rw [if_pos hs,if_pos hs]
theorem aPx {v:List Rat} {l:List aA} {z:Nat→Rat} {k r:Nat} (hk:k=off v l r):pz v l (tz z (k+1)) r=⟨z k,if(jA l r).t.length=0 then(pz v l (tz z k) r).f else(((-(rt (jA l r).t v).num.sign:Int):Rat)/((1:Int):Rat))*((jA l r).mu*z k)⟩:=by
 have e0:tz z (k+1) (off v l r)=z k:=aH4 hk.symm
 have e1:tz z (k+1) (off v l r+1)=0:=aBn (by omega)
 have e2:tz z (k+1) (off v l r+2)=0:=aBn (by omega)
 unfold pz
 rw [e0,e1,e2]
 by_cases ht:(jA l r).t.length=0
 ·simp only [if_pos ht]
 ·simp only [if_neg ht]
  by_cases hs:(rt (jA l r).t v).num.sign=0
  ·have z:((-(0:Int):Int):Rat)/((1:Int):Rat)=0:=by decide+kernel
   rw [if_neg (fun h=>h hs),hs,z,Rat.zero_mul,Rat.sub_self]
  ·rw [if_pos hs]
theorem aD5 {v:List Rat} {l:List aA} {z:Nat→Rat} {r:Nat} (h:yS v (jA l r)=true):pz v l z r=⟨z (off v l r),z (off v l r+1)-z (off v l r+2)⟩:=by
 obtain⟨s1,s2⟩:=aHn h
 unfold pz
 rw [if_neg s1,if_neg (fun h=>h s2)]
theorem aOE {v:List Rat} {l:List aA} {z:Nat→Rat} {k r:Nat} (h:yS v (jA l r)=true) (hk:k=off v l r+1):pz v l (tz z (k+1)) r=⟨(pz v l (tz z k) r).n,(pz v l (tz z k) r).f+z k⟩:=by
 rw [aD5 h,aD5 h,aCl (show off v l r≠k by omega),aH4 (show off v l r+1=k by omega),aBn (show k+1≤off v l r+2 by omega),aBn (show k≤off v l r+1 by omega),aBn (show k≤off v l r+2 by omega)]
 simp [Rat.sub_eq_add_neg,Rat.add_zero,Rat.neg_zero,Rat.zero_add]
theorem aO4 {v:List Rat} {l:List aA} {z:Nat→Rat} {k r:Nat} (h:yS v (jA l r)=true) (hk:k=off v l r+2):pz v l (tz z (k+1)) r=⟨(pz v l (tz z k) r).n,(pz v l (tz z k) r).f-z k⟩:=by
 rw [aD5 h,aD5 h,aCl (show off v l r≠k by omega),aCl (show off v l r+1≠k by omega),aH4 (show off v l r+2=k by omega),aBn (show k≤off v l r+2 by omega)]
 simp [Rat.sub_eq_add_neg,Rat.add_zero,Rat.neg_zero]
theorem aPc {v:List Rat} {l:List aA} {z:Nat→Rat} {k r:Nat} (h:yS v (jA l r)=true) (hk:k=off v l r+3):pz v l (tz z (k+1)) r=pz v l (tz z k) r:=by
 rw [aD5 h,aD5 h,aCl (show off v l r≠k by omega),aCl (show off v l r+1≠k by omega),aCl (show off v l r+2≠k by omega)]
theorem aFe {v:List Rat} {l:List aA} {z:Nat→Rat} {k r q:Nat} {P:Nat→aF} {x:aF} (hq:vq v l r q) (hk:k=off v l r+q) (hx:x=pz v l (tz z (k+1)) r) (hP:∀i,i≠r→P i=pz v l (tz z k) i):mp (iL P r x) l.length=mp (pz v l (tz z (k+1))) l.length:=bW fun i _=>by
 by_cases e:i=r
 ·subst e;rw [aX,hx]
 ·rw [cF e,aCi hq hk e];exact hP i e
theorem aKc {d:List aG} {f v:List Rat} {l:List aA} {z:Nat→Rat} {C:Nat} {v10:aN×Int} (hv:vH 64 v) (hl:RsC l) (hll:l.length≤100) (hz:∀j,j<off v l l.length→Bd C (z j)) (hC1:1≤C) (hC:C≤100000000) (h10:v10.1.z=mp z (off v l l.length)) {K:Nat} (hK:5000≤K):∀(t k fu:Nat),k+t=off v l l.length→t<fu→cV K d f v l ((wY v l l.length).map pu) v10 fu (mp (pz v l (tz z k)) l.length) (k:Int)=some (mp (pz v l (tz z (off v l l.length))) l.length)
 |0,k,fu,hi,hk=>by
  obtain⟨k',rfl,_⟩:=a9 hk
  have e:k=off v l l.length:=by omega
  rw [e]
  simp only [cV,sM,dF (show¬(off v l l.length:Int)<(off v l l.length:Int) by omega),bM]
 |t+1,k,fu,hi,hk=>by
  obtain⟨k',rfl,_⟩:=a9 hk
  have hkl:k<off v l l.length:=by omega
  have h4:=qQ (v:=v) (l:=l) l.length
  obtain⟨r,q,h1,h2,h3⟩:=sN l.length k hkl
  have hq3:=vq3 h2
  have ih:=aKc (d:=d) (f:=f) hv hl hll hz hC1 hC h10 hK t (k+1) k' (by omega) (by omega)
  have hb:=aEf (aQL (k:=k) hC1 hz) hl r h1
  have hc:=hz k hkl
  have rU:=rdU (v:=v) (l:=l) h2 h1
  rw [←h3] at rU
  have st:∀x,nL (mp (pz v l (tz z k)) l.length) (r:Int) x=some (mp (iL (pz v l (tz z k)) r x) l.length):=fun x=>rG h1
  by_cases q0:q=0
  ·subst q0
   have hk0:k=off v l r:=h3
   have st2:∀x y,nL (mp (iL (pz v l (tz z k)) r x) l.length) (r:Int) y=some (mp (iL (iL (pz v l (tz z k)) r x) r y) l.length):=fun x y=>rG h1
   have rd2:∀x,bK (mp (iL (pz v l (tz z k)) r x) l.length) (r:Int)=some x:=fun x=>by rw [dR h1,aX]
   have p0':=aPx (z:=z) hk0
   by_cases ht:(jA l r).t.length=0
   ·rw [if_pos ht] at p0'
    have cG:=aFe (P:=pz v l (tz z k)) h2 h3 p0'.symm (fun i _=>rfl)
    simp only [cV,sM,dT (show(k:Int)<(off v l l.length:Int) by omega),bT,rU,oB,dR h1,Int.natCast_zero,qT (show(0:Int)=0 from rfl),h10,dR (f:=z) hkl,st,aA1 h1,dF (show¬(0:Int)<((jA l r).t.length:Int) by omega),bM,mF (i:=k) (by omega),cG]
    exact ih
   ·rw [if_neg ht] at p0'
    have cG:=aFe (P:=iL (pz v l (tz z k)) r ⟨z k,(pz v l (tz z k) r).f⟩) h2 h3 p0'.symm (fun i hi=>cF hi)
    simp only [cV,sM,dT (show(k:Int)<(off v l l.length:Int) by omega),bT,rU,oB,dR h1,Int.natCast_zero,qT (show(0:Int)=0 from rfl),h10,dR (f:=z) hkl,st,aA1 h1,dT (show(0:Int)<((jA l r).t.length:Int) by omega),aX,aDs hv (hl _ (oA h1)) hc (by omega) (show 13≤K by omega),st2,mF (i:=k) (by omega),cG]
    exact ih
  ·have hst:yS v (jA l r)=true:=by rcases h2 with h|h;exact absurd h q0;exact h.1
   by_cases q1:q=1
   ·subst q1
    have cG:=aFe (P:=pz v l (tz z k)) h2 h3 (aOE (z:=z) hst h3).symm (fun i _=>rfl)
    simp only [cV,sM,dT (show(k:Int)<(off v l l.length:Int) by omega),bT,rU,oB,dR h1,Int.natCast_one,qF (show(1:Int)≠0 by omega),qT (show(1:Int)=1 from rfl),bM,h10,dR (f:=z) hkl,t7 hb.2 hc (by omega) (by omega),st,mF (i:=k) (by omega),cG]
    exact ih
   ·by_cases q2:q=2
    ·subst q2
     have cG:=aFe (P:=pz v l (tz z k)) h2 h3 (aO4 (z:=z) hst h3).symm (fun i _=>rfl)
     simp only [cV,sM,dT (show(k:Int)<(off v l l.length:Int) by omega),bT,rU,oB,dR h1,qF (show((2:Nat):Int)≠0 by omega),qF (show((2:Nat):Int)≠1 by omega),qT (show((2:Nat):Int)=2 from rfl),bM,h10,dR (f:=z) hkl,yV hb.2 hc (by omega) (by omega),st,mF (i:=k) (by omega),cG]
     exact ih
    ·have q3:q=3:=by omega
     subst q3
     have cG:mp (pz v l (tz z k)) l.length=mp (pz v l (tz z (k+1))) l.length:=bW fun i _=>by
      by_cases e:i=r
      ·subst e;exact(aPc hst h3).symm
      ·exact(aCi h2 h3 e).symm
     simp only [cV,sM,dT (show(k:Int)<(off v l l.length:Int) by omega),bT,rU,oB,dR h1,qF (show((3:Nat):Int)≠0 by omega),qF (show((3:Nat):Int)≠1 by omega),qF (show((3:Nat):Int)≠2 by omega),bM,mF (i:=k) (by omega)]
     rw [cG]
     exact ih
end Go.Proofs.YtcjdedkdoagifaaGreat
set_option linter.unusedVariables false
namespace Go.Proofs.YtcjdedkdoagifaaGreat
theorem aON.sbd {s:aL} (hs:aON s):SB s.dofs s.load s.v s.rows:=by
 have hn1:=hs.n1
 have hn4:=hs.n4
 have hll:=hs.ll
 have hvl:=hs.vl
 have hrl:=hs.rl
 exact⟨fun x hx=>(hs.dofs x hx).1,by omega,fun x hx=>(hs.load x hx).mono (by omega),by omega,fun x hx=>(hs.v x hx).mono (by omega),by omega,hs.mus,by omega⟩
end Go.Proofs.YtcjdedkdoagifaaGreat
set_option linter.unusedVariables false
namespace Go.Proofs.YtcjdedkdoagifaaGreat
theorem aKT {n B:Nat} {T:Nat→Nat→Rat} {b:Nat→Nat} (hT:Bdx n (2*n+2) B T) (hB:1≤B):∀i,i≤n→∀j,Bd B (zM T b n i j)
 |0,_,j=>Bd.zero.mono hB
 |i+1,h,j=>by
  have ih:=aKT (b:=b) hT hB i (by omega)
  unfold zM
  split
  ·exact ih j
  ·split
   ·by_cases e:j=b i-n
    ·subst e;rw [aX];exact hT i _ (by omega) (by omega)
    ·rw [cF e];exact ih j
   ·exact ih j
theorem aNM {n most B:Nat} {Z:Nat→Nat→Rat} (hZ:Sm n B Z) (hB:1≤B):∀(f:Nat) (T:Nat→Nat→Rat) (b:Nat→Nat) (r c cnt:Nat),LI n Z T b r c→(lem n most f T b r c cnt).2=0→(lem n most f T b r c cnt).1.z.length=n∧vH B (lem n most f T b r c cnt).1.z
 |0,T,b,r,c,cnt,h,h0=>absurd (show(16:Int)=0 from h0) (by decide)
 |f+1,T,b,r,c,cnt,h,h0=>by
  unfold lem at h0 ⊢
  by_cases e:cnt=most
  ·rw [if_pos e] at h0;exact absurd h0 (by decide)
  ·rw [if_neg e] at h0 ⊢
   have hcw:=h.hc
   by_cases e2:b r=2*n
   ·rw [if_pos e2]
    have ti':=h.ti.pivot h.hr (show c<2*n+2 by omega) h.hp
    exact⟨bV _ _,zV fun j _=>aKT (hZ _ _ ti') hB n (Nat.le_refl _) j⟩
   ·rw [if_neg e2] at h0 ⊢
    cases hs:sel (t5 T r c) n (if b r<n then b r+n else b r-n) n 0 none with
    |none=>rw [hs] at h0;exact absurd (show(15:Int)=0 from h0) (by decide)
    |some r'=>
     rw [hs] at h0
     exact aNM hZ hB f _ _ _ _ _ (h.next e2 hs) h0
theorem aLj {M:Nat→Nat→Rat} {q:Nat→Rat} {n B most:Nat} (hZ:Sm n B (sJ M q n)) (hB:1≤B) (h0:(uU M q n most).2=0):(uU M q n most).1.z.length=n∧vH B (uU M q n most).1.z:=by
 unfold uU at h0 ⊢
 by_cases hneg:ng q n 0=true
 ·rw [hneg,bT] at h0 ⊢
  exact aNM hZ hB _ _ _ _ _ _ (aEZ (aAu n 0 0 (aCC hneg) (by omega))) h0
 ·have hneg':ng q n 0=false:=by cases h:ng q n 0 with|true=>exact absurd h hneg|false=>rfl
  rw [hneg',bM]
  exact⟨bV _ _,zV fun j _=>Bd.zero.mono hB⟩
theorem pw4 {D k m:Nat} (h:D≤2^k) (e:4*k+56=m):64*(2^50*(D*D*D*D))≤2^m:=by
 have e2:=Nat.mul_le_mul (Nat.mul_le_mul (Nat.mul_le_mul h h) h) h
 rw [←Nat.pow_add,←Nat.pow_add,←Nat.pow_add] at e2
 have e3:=Nat.mul_le_mul (Nat.le_refl (2^6)) (Nat.mul_le_mul (Nat.le_refl (2^50)) e2)
 rw [←Nat.pow_add,←Nat.pow_add] at e3
 rw [show m=6+(50+(k+k+k+k)) by omega]
 exact e3
theorem pw8 {D k m:Nat} (h:D≤256^k) (e:8*k=m):D≤2^m:=by
 rw [show(256:Nat)=2^8 from rfl,←Nat.pow_mul,e] at h;exact h
theorem pwn {x k m n:Nat} (h:x≤2^k) (e:k*n<m):x^n<2^m:=by
 refine Nat.lt_of_le_of_lt (Nat.pow_le_pow_left h n) ?_
 rw [←Nat.pow_mul]
 exact Nat.pow_lt_pow_right (by decide) e
theorem aP4 {D n sz:Nat} (hs:sz=100000) (hD:D≤256^149) (hn:n≤20):(64*(2^50*(D*D*D*D)))^n<2^sz:=
 pwn (pw4 (pw8 hD (m:=1192) (by decide)) (m:=4824) (by decide)) (by omega)
theorem aLR {d:List aG} {f v:List Rat} {l:List aA} (h:ScB d f v l) (hm:l.length≤5) (h8:∀j,j<d.length→Bd 8 (pL f j)):Sm (off v l l.length) 100000 (sJ (Mf d v l) (qf d (pL f) v l) (off v l l.length)):=fun T b hT=>by
 obtain⟨D,hD,hle⟩:=aQW (f:=pL f) h.sb.sd h.n8 h8 h.sb.sl hm
 have hrb:RsB l:=fun r hr=>(h.sb.sl r hr).1
 have h4:=qQ (v:=v) (l:=l) l.length
 have hp:(((D^4:Nat)):Rat)≠0:=by
  have:=Nat.pow_pos (n:=4) (show 0<D from hD.pos)
  intro e
  have e2:D^4=0:=by exact_mod_cast e
  omega
 obtain⟨k,hk⟩:∃k,k=100000:=⟨_,rfl⟩
 rw [←hk]
 exact hT.bd hp (fun i c hi _=>aOF hD hrb hm hi) (by omega) (aP4 hk hle (by omega))
def aCc (d:List aG) (f v:List Rat) (l:List aA):List Rat×List aF×Int:=
 bif(uU (Mf d v l) (qf d (pL f) v l) (off v l l.length) 4096).2 != 0 then([],[],(uU (Mf d v l) (qf d (pL f) v l) (off v l l.length) 4096).2)
 else(mp (xM d (pL f) l (pz v l (pL (uU (Mf d v l) (qf d (pL f) v l) (off v l l.length) 4096).1.z))) d.length,mp (pz v l (pL (uU (Mf d v l) (qf d (pL f) v l) (off v l l.length) 4096).1.z)) l.length,0)
theorem aPd {x:List Rat} {n:Nat} (h:x.length=n):tz (pL x) n=pL x:=funext fun j=>by
 unfold tz
 by_cases e:j<n
 ·rw [if_pos e]
 ·rw [if_neg e];unfold pL;rw [List.getD_eq_getElem?_getD,List.getElem?_eq_none (by omega)];rfl
theorem aJ2 {d:List aG} {f v:List Rat} {l:List aA} (h:ScB d f v l) (hf:aB9 d f v l=true) (hm:l.length≤5) (h8:∀j,j<d.length→Bd 8 (pL f j)) {K:Nat} (hK:6000≤K):nN K d f v l=some (aCc d f v l)∧sR K d f v l=some (aCc d f v l):=by
 have h4:=qQ (v:=v) (l:=l) l.length
 have hn:=h.n8
 have hrb:RsB l:=fun r hr=>(h.sb.sl r hr).1
 have e1:=aFY h (show 5000≤K by omega)
 have e2:=aF0 h hf (show 5000≤K by omega)
 have hq1:∀i,i<off v l l.length→Bd 100000 (qf d (pL f) v l i):=fun i hi=>by rw [←aFl (n:=0)];exact h.vbd (z:=z0) (fun _=>Bd.zero) hi
 have hq:∀i,i<off v l l.length→Bd 300000 (qf d (pL f) v l i):=fun i hi=>(hq1 i hi).mono (by omega)
 have hM:Bdx (off v l l.length) (off v l l.length) 300000 (Mf d v l):=fun i c hi _=>by
  rw [←aKL (f:=pL f)]
  exact((h.vbd (z:=ek c) (fun _=>aI8) hi).sub (hq1 i hi)).mono (by omega)
 have hZ:=aLR h hm h8
 have hZ3:Sm (off v l l.length) 300000 (sJ (Mf d v l) (qf d (pL f) v l) (off v l l.length)):=fun T b hT i c hi hc=>(hZ T b hT i c hi hc).mono (by omega)
 obtain⟨c1,c2⟩:=aJz (most:=4096) hM hq hZ3 (by omega) (show off v l l.length≤32 by omega) (by omega) (show 5000≤K by omega) (by omega)
 have u1:=aCj (d:=d) (f:=f) h.sb.sv hrb (show l.length≤1000 by omega) (show 2000≤K by omega)
 have u2:=vZ h.sb.sv hrb (show l.length≤1000 by omega) (show 2000≤K by omega)
 have t1:((4096:Nat):Int)=4096:=rfl
 rw [t1] at c1 c2
 by_cases h0:(uU (Mf d v l) (qf d (pL f) v l) (off v l l.length) 4096).2=0
 ·obtain⟨z1,z2⟩:=aLj hZ (by omega) h0
  generalize hx:uU (Mf d v l) (qf d (pL f) v l) (off v l l.length) 4096=X at *
  have zb:∀j,j<off v l l.length→Bd 100000 (pL X.1.z j):=fun j hj=>z2 _ (vR (by omega))
  have zm:X.1.z=mp (pL X.1.z) (off v l l.length):=by rw [←z1];exact aMd _
  have pb:=aEf zb h.sb.sl
  have pl:=aKc (d:=d) (f:=f) (v10:=X) h.sb.sv h.sb.sl (show l.length≤100 by omega) zb (by omega) (by omega) zm (show 5000≤K by omega) (off v l l.length) 0 K (by omega) (by omega)
  rw [aPd z1] at pl
  have p00:mp (pz v l (tz (pL X.1.z) 0)) l.length=mp (fun _=>(⟨0,0⟩:aF)) l.length:=bW fun i _=>by
   rw [show tz (pL X.1.z) 0=z0 from funext fun j=>aBn (Nat.zero_le _)];exact aIo
  rw [p00] at pl
  simp only [Int.natCast_zero] at pl
  have rp:=aEH h.sb.sv h.sb.sl zb (by omega) (show l.length≤1000 by omega) (show 5000≤K by omega)
  rw [←zm] at rp
  have hA:(2*100000+11+9)*24*l.length≤400000000:=Nat.le_trans (Nat.mul_le_mul_left _ hm) (by decide)
  have a1:=aE2 (f0:=f) (v0:=v) h.sb.sd (by omega) h.fbd hrb h.ir (by omega) pb (by omega) hA (show 2000≤K by omega)
  have a2:=aJc h.sb.sd (by omega) h.fbd hrb h.ir (by omega) pb (by omega) hA (show 2000≤K by omega)
  rw [←h.fmp] at a1 a2
  unfold aCc
  rw [hx]
  constructor
  ·simp only [nN,aIP h.sb (show 200≤K by omega),hf,oB,Bool.not_true,bM,u1,sM,dF (show¬(32:Int)<(off v l l.length:Int) by omega),e1,c1,nF h0,aAJ (z:=(⟨0,0⟩:aF)) (n:=l.length) (by omega),pl,rI,a1]
  ·simp only [sR,aHV h.sb (show 200≤K by omega),hf,oB,Bool.not_true,bM,u2,zX,dF (show¬(32:Int)<(off v l l.length:Int) by omega),e2,c2,nF h0,rp,a2]
 ·unfold aCc
  constructor
  ·simp only [nN,aIP h.sb (show 200≤K by omega),hf,oB,Bool.not_true,bM,u1,sM,dF (show¬(32:Int)<(off v l l.length:Int) by omega),e1,c1,nT h0,bT]
  ·simp only [sR,aHV h.sb (show 200≤K by omega),hf,oB,Bool.not_true,bM,u2,zX,dF (show¬(32:Int)<(off v l l.length:Int) by omega),e2,c2,nT h0,bT]
end Go.Proofs.YtcjdedkdoagifaaGreat
set_option linter.unusedVariables false
namespace Go.Proofs.YtcjdedkdoagifaaGreat
def zr:aA:=⟨0,0,0,0,0,[],[],0,0⟩
def more:Nat→List aA→List aA
 |0,l=>l
 |t+1,l=>more t (l++[zr])
end Go.Proofs.YtcjdedkdoagifaaGreat
set_option linter.unusedVariables false
namespace Go.Proofs.YtcjdedkdoagifaaGreat
end Go.Proofs.YtcjdedkdoagifaaGreat
set_option linter.unusedVariables false
namespace Go.Proofs.YtcjdedkdoagifaaGreat
/-- Terms of the first n places, in order. -/
def IO (n:Nat) (l:List aE):Prop:=InT n l∧l.Pairwise (fun a b=>a.dof<b.dof)
theorem IO.nil {n:Nat}:IO n []:=⟨fun t h=>absurd h List.not_mem_nil,List.Pairwise.nil⟩
theorem IO.up {n:Nat} {l:List aE} (h:IO n l):IO (n+1) l:=⟨fun t ht=>⟨(h.1 t ht).1,by have:=(h.1 t ht).2;omega⟩,h.2⟩
theorem IO.snoc {n:Nat} {l:List aE} {q:Rat} (h:IO n l):IO (n+1) (l++[⟨(n:Int),q⟩]):=by
 refine⟨fun t ht=>?_,List.pairwise_append.2 ⟨h.2,List.pairwise_singleton _ _,fun a ha b hb=>?_⟩⟩
 ·rcases List.mem_append.1 ht with h1|h1
  ·exact h.up.1 t h1
  ·rw [List.mem_singleton.1 h1];exact⟨by simp only;omega,by simp only;omega⟩
 ·rw [List.mem_singleton.1 hb];exact(h.1 a ha).2
def NT (n:Nat) (l:List aE):Prop:=TB l∧IO n l
def RN (n w:Nat) (r:aA):Prop:=RC r∧IO w r.j∧IO n r.t∧0≤r.mu
def RsN (n w:Nat) (l:List aA):Prop:=∀r∈l,RN n w r
theorem RsN.snoc {n w:Nat} {l:List aA} {r:aA} (h:RsN n w l) (hr:RN n w r):RsN n w (l++[r]):=fun x hx=>by
 rcases List.mem_append.1 hx with h1|h1
 ·exact h x h1
 ·rw [List.mem_singleton.1 h1];exact hr
theorem aB6 {n:Nat} (hn:n≤12):∀(t i:Nat) (out:List aE) (v:Int),i+t=n→0≤v→v≤4000000000000→out.length≤i→(∀t∈out,Bd 8 t.k)→IO i out→∃r,NT n r∧∀K k,t<k→eA K (n:Int) k out v (i:Int)=some r
 |0,i,out,v,hi,h0,h1,hl,hb,hd=>⟨out,⟨⟨by omega,hb⟩,by rw [show n=i by omega];exact hd⟩,fun K k hk=>by
  obtain⟨k',rfl,_⟩:=a9 hk
  simp only [eA,dF (show¬(i:Int)<(n:Int) by omega),bM]⟩
 |t+1,i,out,v,hi,h0,h1,hl,hb,hd=>by
  have m7:=aCd (a:=v) (m:=7) h0 (by omega)
  obtain⟨x,x1,x2,x3⟩:=tab7 m7.1 m7.2
  have m3:=aCd (a:=v/7) (m:=3) (by omega) (by omega)
  have e1:vA v 7=some (v%7):=mJ h0 (by omega)
  have e2:vT v 7=some (v/7):=rB h0 (by omega) (by omega)
  have e3:vA (v/7) 3=some (v/7%3):=mJ (by omega) (by omega)
  have e4:vT (v/7) 3=some (v/7/3):=rB (by omega) (by omega) (by omega)
  have e5:aP (1+v/7%3)=some (1+v/7%3):=kM (by omega)
  by_cases hx:x=0
  ·obtain⟨r,r1,r2⟩:=aB6 hn t (i+1) out (v/7/3) (by omega) (by omega) (by omega) (by omega) hb hd.up
   refine⟨r,r1,fun K k hk=>?_⟩
   obtain⟨k',rfl,_⟩:=a9 hk
   simp only [eA,dT (show(i:Int)<(n:Int) by omega),bT,e1,oB,x1,e2,nF hx,bM,e4,mF (i:=i) (by omega)]
   exact r2 K k' (by omega)
  ·obtain⟨q,q1,q2,q3⟩:=aCg (k:=8) (p:=x) (q:=1+v/7%3) (by omega) (by omega) (by omega) (by omega)
   obtain⟨r,r1,r2⟩:=aB6 hn t (i+1) (out++[⟨(i:Int),q⟩]) (v/7/3) (by omega) (by omega) (by omega) (by simp;omega) (fun t ht=>by
    rcases List.mem_append.1 ht with h|h
    ·exact hb t h
    ·rw [List.mem_singleton.1 h];exact q3) hd.snoc
   refine⟨r,r1,fun K k hk=>?_⟩
   obtain⟨k',rfl,_⟩:=a9 hk
   simp only [eA,dT (show(i:Int)<(n:Int) by omega),bT,e1,oB,x1,e2,nT hx,e3,e5,q1,apS (xs:=out) (x:=(⟨(i:Int),q⟩:aE)) (by omega),e4,mF (i:=i) (by omega)]
   exact r2 K k' (by omega)
theorem aC4 {n:Nat} (hn:n≤12) {v:Int} (h0:0≤v) (h1:v≤4000000000000):∃r,NT n r∧∀K,n<K→dW K v (n:Int)=some r:=by
 obtain⟨r,r1,r2⟩:=aB6 hn n 0 [] v (by omega) h0 h1 (by simp) (fun t h=>absurd h List.not_mem_nil) IO.nil
 refine⟨r,r1,fun K hK=>?_⟩
 have:=r2 K K hK
 simp only [Int.natCast_zero] at this
 simp only [dW,this,oB,nM]
theorem aKz {p q:Int} (hp:0≤p) (hq:0<q):(0:Rat)≤(p:Rat)/(q:Rat):=by
 rw [←Rat.divInt_eq_div]
 exact(Rat.divInt_nonneg_iff_of_pos_right hq).2 hp
theorem aLQ {q:Rat} (h:0≤q):0≤q.num.sign:=by
 have h2:=Rat.num_nonneg.2 h
 rcases Int.lt_or_eq_of_le h2 with h|h
 ·rw [Int.sign_eq_one_of_pos h];omega
 ·rw [←h];decide
theorem aOW {q:Rat} (h:0≤q) (h0:q≠0):0<q.num.sign:=by
 have h1:=aLQ h
 have h2:q.num.sign≠0:=fun e=>h0 (aBu.1 e)
 omega
theorem aD2 {l:List Int} (hl:aGF l) (i:Nat) (hi:i≤10) (n:Nat) (hn:1≤n∧n≤4):∃v129 v137 v145 v151 q r131 r139 r197,
  bG l (9+3*(i:Int)) 1099511627776=some v129∧bG l (10+3*(i:Int)) 1099511627776=some v137∧bG l (11+3*(i:Int)) 5=some v145∧bG l (11+3*(i:Int)) 3=some v151∧aP (1+v151)=some (1+v151)∧zJ v145 (1+v151)=some q∧Bd 8 q∧0≤v129∧v129≤4000000000000∧NT n r131∧NT n r139∧NT (n-1) r197∧0≤q∧
  ∀K,n<K→dW K v129 (n:Int)=some r131∧dW K v137 (n:Int)=some r139∧dW K v129 ((n:Int)-1)=some r197:=by
 obtain⟨v,v1,v2,v3⟩:=aAR hl (9+3*(i:Int)) (m:=1099511627776) (by omega)
 obtain⟨w,w1,w2,w3⟩:=aAR hl (10+3*(i:Int)) (m:=1099511627776) (by omega)
 obtain⟨x,x1,x2,x3⟩:=aAR hl (11+3*(i:Int)) (m:=5) (by omega)
 obtain⟨y,y1,y2,y3⟩:=aAR hl (11+3*(i:Int)) (m:=3) (by omega)
 obtain⟨q,q1,q2,q3⟩:=aCg (k:=8) (p:=x) (q:=1+y) (by omega) (by omega) (by omega) (by omega)
 obtain⟨a,a1,a2⟩:=aC4 (n:=n) (v:=v) (by omega) v2 (by omega)
 obtain⟨b,b1,b2⟩:=aC4 (n:=n) (v:=w) (by omega) w2 (by omega)
 obtain⟨c,c1,c2⟩:=aC4 (n:=n-1) (v:=v) (by omega) v2 (by omega)
 refine⟨v,w,x,y,q,a,b,c,v1,w1,x1,y1,kM (by omega),q1,q3,v2,by omega,a1,b1,c1,by rw [q2];exact aKz x2 (by omega),fun K hK=>⟨a2 K hK,b2 K hK,?_⟩⟩
 have:=c2 K (by omega)
 rw [show((n-1:Nat):Int)=(n:Int)-1 by omega] at this
 exact this
theorem aEq {l:List Int} (hl:aGF l) {n:Nat} (hn:n≤4):∀(t i:Nat) (a b:List Rat) (d:List aG),i+t=n→a.length=i→b.length=i→d.length=i→vH 8 a→vH 4 b→aO9 d→(∀x∈a,x=0)→d.all aCa=true→
  ∃a' b' d',a'.length=n∧b'.length=n∧d'.length=n∧vH 8 a'∧vH 4 b'∧aO9 d'∧(∀x∈a',x=0)∧d'.all aCa=true∧∀K k,t<k→gI K l (n:Int) k a b d (i:Int)=some (a',b',d')
 |0,i,a,b,d,hi,h1,h2,h3,h4,h5,h6,h7,h8=>⟨a,b,d,by omega,by omega,by omega,h4,h5,h6,h7,h8,fun K k hk=>by
  obtain⟨k',rfl,_⟩:=a9 hk
  simp only [gI,dF (show¬(i:Int)<(n:Int) by omega),bM]⟩
 |t+1,i,a,b,d,hi,h1,h2,h3,h4,h5,h6,h7,h8=>by
  obtain⟨v,v1,v2,v3⟩:=aAR hl (1+(i:Int)) (m:=1073741824) (by omega)
  have m3:=aCd (a:=v) (m:=3) v2 (by omega)
  have m4:=aCd (a:=v/3) (m:=4) (by omega) (by omega)
  have m13:=aCd (a:=v/12) (m:=13) (by omega) (by omega)
  have m33:=aCd (a:=v/156) (m:=3) (by omega) (by omega)
  have e0:aP (1+(i:Int))=some (1+(i:Int)):=kM (by omega)
  have e1:vA v 3=some (v%3):=mJ v2 (by omega)
  have e2:aP (1+v%3)=some (1+v%3):=kM (by omega)
  have e3:vT v 3=some (v/3):=rB v2 (by omega) (by omega)
  have e4:vA (v/3) 4=some (v/3%4):=mJ (by omega) (by omega)
  have e5:aP (1+v/3%4)=some (1+v/3%4):=kM (by omega)
  obtain⟨q,q1,q2,q3⟩:=aCg (k:=8) (p:=1+v%3) (q:=1+v/3%4) (by omega) (by omega) (by omega) (by omega)
  have e6:vT v 12=some (v/12):=rB v2 (by omega) (by omega)
  have e7:vA (v/12) 13=some (v/12%13):=mJ (by omega) (by omega)
  have e8:aP (v/12%13-6)=some (v/12%13-6):=kM (by omega)
  have e9:vT v 156=some (v/156):=rB v2 (by omega) (by omega)
  have e10:vA (v/156) 3=some (v/156%3):=mJ (by omega) (by omega)
  have e11:aP (1+v/156%3)=some (1+v/156%3):=kM (by omega)
  obtain⟨p,p1,p2,p3⟩:=aCg (k:=4) (p:=v/12%13-6) (q:=1+v/156%3) (by omega) (by omega) (by omega) (by omega)
  have hq:aNL ⟨q,0,false,0,0⟩:=⟨q3,by rw [q2];exact aOZ (by omega) (by omega),Bd.zero.mono (by omega)⟩
  obtain⟨a',b',d',g1,g2,g3,g4,g5,g6,g8,g9,g7⟩:=aEq hl hn t (i+1) (a++[0]) (b++[p]) (d++[⟨q,0,false,0,0⟩]) (by omega) (by simp;omega) (by simp;omega) (by simp;omega) (h4.snoc (Bd.zero.mono (by omega))) (h5.snoc p3) (fun x hx=>by
   rcases List.mem_append.1 hx with h|h
   ·exact h6 x h
   ·rw [List.mem_singleton.1 h];exact hq) (fun x hx=>by
   rcases List.mem_append.1 hx with h|h
   ·exact h7 x h
   ·rw [List.mem_singleton.1 h]) (by
   rw [List.all_append,h8,List.all_cons,show aCa ⟨q,0,false,0,0⟩=true from decide_eq_true (aOW (by rw [q2];exact aKz (by omega) (by omega)) hq.2.1)];rfl)
  refine⟨a',b',d',g1,g2,g3,g4,g5,g6,g8,g9,fun K k hk=>?_⟩
  obtain⟨k',rfl,_⟩:=a9 hk
  simp only [gI,dT (show(i:Int)<(n:Int) by omega),bT,e0,oB,v1,e1,e2,e3,e4,e5,q1,apS (xs:=d) (x:=(⟨q,0,false,0,0⟩:aG)) (by omega),e6,e7,e8,e9,e10,e11,p1,apS (xs:=b) (x:=p) (by omega),apS (xs:=a) (x:=(0:Rat)) (by omega),mF (i:=i) (by omega)]
  exact g7 K k' (by omega)
theorem aC7 {x107:List aA} {i:Nat} {v129:Int} {r:aA} {n w:Nat} (hi:i≤10) (hv:0≤v129) (hm:Bd 8 r.mu) (hr:RN n w r) (hl:x107.length≤100):∃r',RN n w r'∧∀K recl,eU K x107 (i:Int) v129 recl r=recl (x107++[r']) ((i+1:Nat):Int):=by
 by_cases h0:r.mu=0
 ·refine⟨⟨r.kind,r.a,r.b,r.edge,r.gap,r.j,[],0,r.e⟩,⟨⟨⟨hr.1.1.1,TB.nil⟩,Bd.zero.mono (by omega)⟩,hr.2.1,IO.nil,Rat.le_refl⟩,fun K recl=>?_⟩
  simp only [eU,kY hm (by omega),oB,qT (aBu.2 h0),bT,apS (show x107.length≤60000000000 by omega),mF (i:=i) (by omega)]
 ·by_cases h1:v129%5=0
  ·refine⟨⟨r.kind,r.a,r.b,r.edge,r.gap,r.j,[],0,r.e⟩,⟨⟨⟨hr.1.1.1,TB.nil⟩,Bd.zero.mono (by omega)⟩,hr.2.1,IO.nil,Rat.le_refl⟩,fun K recl=>?_⟩
   simp only [eU,kY hm (by omega),oB,qF (fun h=>h0 (aBu.1 h)),bM,mJ hv (show(0:Int)<5 by omega),qT h1,bT,apS (show x107.length≤60000000000 by omega),mF (i:=i) (by omega)]
  ·refine⟨r,hr,fun K recl=>?_⟩
   simp only [eU,kY hm (by omega),oB,qF (fun h=>h0 (aBu.1 h)),bM,mJ hv (show(0:Int)<5 by omega),qF h1,apS (show x107.length≤60000000000 by omega),mF (i:=i) (by omega)]
theorem aHB {x107:List aA} {i:Nat} {v129:Int} {a b:List aE} {m:Rat} {n w:Nat} (hi:i≤10) (hv:0≤v129) (hm:Bd 8 m) (ha:NT w a) (hb:NT n b) (hm0:0≤m) (hl:x107.length≤100):∃r',RN n w r'∧∀K recl,fW K x107 (i:Int) v129 a b m recl=recl (x107++[r']) ((i+1:Nat):Int):=by
 by_cases h0:m=0
 ·refine⟨⟨0,0,(i:Int),0,0,a,[],0,0⟩,⟨⟨⟨ha.1,TB.nil⟩,Bd.zero.mono (by omega)⟩,ha.2,IO.nil,Rat.le_refl⟩,fun K recl=>?_⟩
  simp only [fW,kY hm (by omega),oB,qT (aBu.2 h0),bT,apS (show x107.length≤60000000000 by omega),mF (i:=i) (by omega)]
 ·by_cases h1:v129%5=0
  ·refine⟨⟨0,0,(i:Int),0,0,a,[],0,0⟩,⟨⟨⟨ha.1,TB.nil⟩,Bd.zero.mono (by omega)⟩,ha.2,IO.nil,Rat.le_refl⟩,fun K recl=>?_⟩
   simp only [fW,kY hm (by omega),oB,qF (fun h=>h0 (aBu.1 h)),bM,mJ hv (show(0:Int)<5 by omega),qT h1,bT,apS (show x107.length≤60000000000 by omega),mF (i:=i) (by omega)]
  ·refine⟨⟨0,0,(i:Int),0,0,a,b,m,0⟩,⟨⟨⟨ha.1,hb.1⟩,hm⟩,ha.2,hb.2,hm0⟩,fun K recl=>?_⟩
   simp only [fW,kY hm (by omega),oB,qF (fun h=>h0 (aBu.1 h)),bM,mJ hv (show(0:Int)<5 by omega),qF h1,apS (show x107.length≤60000000000 by omega),mF (i:=i) (by omega)]
theorem aA2 {l:List Int} (hl:aGF l) (a1:Bool) (n:Nat) (hn:1≤n∧n≤4) {v8:Int} (h8:bG l 8 5=some v8) (h8':v8<5):∀(t i:Nat) (x:List aA),i+t=4→x.length=i→RsN n (bif a1 then n else n-1) x→
  ∃r,RsN n (bif a1 then n else n-1) r∧r.length≤4∧∀K k,n<K→t<k→cR K l a1 (n:Int) k x (i:Int)=some r
 |0,i,x,hi,hx,hr=>⟨x,hr,by omega,fun K k hK hk=>by
  obtain⟨k',rfl,_⟩:=a9 hk
  simp only [cR,h8,oB,dF (show¬(i:Int)<v8 by omega),bM]⟩
 |t+1,i,x,hi,hx,hr=>by
  by_cases hlt:(i:Int)<v8
  ·obtain⟨v129,v137,v145,v151,q,r131,r139,r197,b1,b2,b3,b4,b5,b6,b7,b8,b9,b10,b11,b12,b14,b13⟩:=aD2 hl i (by omega) n hn
   have e3:aP (3*(i:Int))=some (3*(i:Int)):=kM (by omega)
   have e9:aP (9+3*(i:Int))=some (9+3*(i:Int)):=kM (by omega)
   have e10:aP (10+3*(i:Int))=some (10+3*(i:Int)):=kM (by omega)
   have e11:aP (11+3*(i:Int))=some (11+3*(i:Int)):=kM (by omega)
   have en:aP ((n:Int)-1)=some ((n:Int)-1):=kM (by omega)
   cases a1
   ·obtain⟨r',c1,c2⟩:=aC7 (x107:=x) (i:=i) (v129:=v129) (r:=⟨0,0,(i:Int),0,0,r197,r139,q,0⟩) (by omega) b8 b7 (n:=n) (w:=n-1) ⟨⟨⟨b12.1,b11.1⟩,b7⟩,b12.2,b11.2,b14⟩ (by omega)
    obtain⟨r,d1,d2,d3⟩:=aA2 hl false n hn h8 h8' t (i+1) (x++[r']) (by omega) (by simp;omega) (hr.snoc c1)
    refine⟨r,d1,d2,fun K k hK hk=>?_⟩
    obtain⟨k',rfl,_⟩:=a9 hk
    obtain⟨s1,s2,s3⟩:=b13 K hK
    simp only [cR,h8,oB,dT hlt,bT,e3,e9,e10,e11,b1,b2,b3,b4,b5,b6,s1,s2,s3,Bool.not_false,en,c2]
    exact d3 K k' hK (by omega)
   ·obtain⟨r',c1,c2⟩:=aC7 (x107:=x) (i:=i) (v129:=v129) (r:=⟨0,0,(i:Int),0,0,r131,r139,q,0⟩) (by omega) b8 b7 (n:=n) (w:=n) ⟨⟨⟨b10.1,b11.1⟩,b7⟩,b10.2,b11.2,b14⟩ (by omega)
    obtain⟨r,d1,d2,d3⟩:=aA2 hl true n hn h8 h8' t (i+1) (x++[r']) (by omega) (by simp;omega) (hr.snoc c1)
    refine⟨r,d1,d2,fun K k hK hk=>?_⟩
    obtain⟨k',rfl,_⟩:=a9 hk
    obtain⟨s1,s2,s3⟩:=b13 K hK
    simp only [cR,h8,oB,dT hlt,bT,e3,e9,e10,e11,b1,b2,b3,b4,b5,b6,s1,s2,Bool.not_true,bM,c2]
    exact d3 K k' hK (by omega)
  ·refine⟨x,hr,by omega,fun K k hK hk=>?_⟩
   obtain⟨k',rfl,_⟩:=a9 hk
   simp only [cR,h8,oB,dF hlt,bM]
theorem aDJ {l:List Int} (hl:aGF l) (n:Nat) (hn:1≤n∧n≤4) {v8:Int} (h8:bG l 8 5=some v8) (h8':v8<5):∀(t i:Nat) (x:List aA),i+t=4→x.length=i→RsN n n x→
  ∃r,RsN n n r∧r.length≤4∧∀K k,n<K→t<k→dU K l (n:Int) k x (i:Int)=some r
 |0,i,x,hi,hx,hr=>⟨x,hr,by omega,fun K k hK hk=>by
  obtain⟨k',rfl,_⟩:=a9 hk
  simp only [dU,h8,oB,dF (show¬(i:Int)<v8 by omega),bM]⟩
 |t+1,i,x,hi,hx,hr=>by
  by_cases hlt:(i:Int)<v8
  ·obtain⟨v129,v137,v145,v151,q,r131,r139,r197,b1,b2,b3,b4,b5,b6,b7,b8,b9,b10,b11,b12,b14,b13⟩:=aD2 hl i (by omega) n hn
   have e3:aP (3*(i:Int))=some (3*(i:Int)):=kM (by omega)
   have e9:aP (9+3*(i:Int))=some (9+3*(i:Int)):=kM (by omega)
   have e10:aP (10+3*(i:Int))=some (10+3*(i:Int)):=kM (by omega)
   have e11:aP (11+3*(i:Int))=some (11+3*(i:Int)):=kM (by omega)
   obtain⟨r',c1,c2⟩:=aHB (x107:=x) (i:=i) (v129:=v129) (a:=r131) (b:=r139) (m:=q) (by omega) b8 b7 b10 b11 b14 (by omega)
   obtain⟨r,d1,d2,d3⟩:=aDJ hl n hn h8 h8' t (i+1) (x++[r']) (by omega) (by simp;omega) (hr.snoc c1)
   refine⟨r,d1,d2,fun K k hK hk=>?_⟩
   obtain⟨k',rfl,_⟩:=a9 hk
   obtain⟨s1,s2,s3⟩:=b13 K hK
   simp only [dU,h8,oB,dT hlt,bT,e3,e9,e10,e11,b1,b2,b3,b4,b5,b6,s1,s2,c2]
   exact d3 K k' hK (by omega)
  ·refine⟨x,hr,by omega,fun K k hK hk=>?_⟩
   obtain⟨k',rfl,_⟩:=a9 hk
   simp only [dU,h8,oB,dF hlt,bM]
theorem aLd {n w:Nat} {l:List aE} (h:IO w l) (hw:w≤n):∀t i,i+t=l.length→tks n l t i=true
 |0,_,_=>rfl
 |t+1,i,hi=>by
  unfold tks
  rw [aLd h hw t (i+1) (by omega),Bool.and_true]
  have hil:i<l.length:=by omega
  have e:∀k,(hk:k<l.length)→uB l k=l[k]:=fun k hk=>by
   unfold uB;simp only [List.getD_eq_getElem?_getD,List.getElem?_eq_getElem hk,Option.getD_some]
  have h1:=h.1 l[i] (List.getElem_mem hil)
  refine decide_eq_true ⟨by rw [e i hil];exact h1.1,by rw [e i hil];have:=h1.2;omega,fun h0=>?_⟩
  rw [e i hil,e (i-1) (by omega)]
  exact List.pairwise_iff_getElem.1 h.2 (i-1) i (by omega) hil (by omega)
theorem aOf {v:List Rat}:∀(l:List aE) (x:Rat),(∀t∈l,trm v t=0)→rtf v l x=x
 |[],x,_=>rfl
 |t::l,x,h=>by
  unfold rtf
  rw [h t (List.mem_cons_self ..),Rat.add_zero]
  exact aOf l x fun u hu=>h u (List.mem_cons_of_mem _ hu)
theorem aHK {d:List aG} {f v:List Rat} {l:List aA} {n w:Nat} (hn:n≤4) (hw:w≤n) (hd:d.length=n) (hf:f.length=n) (hv:v.length=n) (hp:d.all aCa=true) (hl:RsN n w l) (h0:∀j,j<w→pL v j=0):aB9 d f v l=true:=by
 unfold aB9
 rw [hp,decide_eq_true (show d.length≤12∧f.length=d.length∧v.length=d.length by omega),Bool.true_and,Bool.true_and]
 refine List.all_eq_true.2 fun r hr=>?_
 obtain⟨r1,r2,r3,r4⟩:=hl r hr
 have e:rt r.j v=0:=aOf _ _ fun t ht=>by
  have:=r2.1 t ht
  unfold trm
  rw [decide_eq_true (show 0≤t.dof∧t.dof<(v.length:Int) by omega),bT,h0 _ (by omega),Rat.mul_zero]
 unfold yD qX tOk
 rw [e,hd,aLd r2 hw _ _ (Nat.zero_add _),aLd r3 (Nat.le_refl n) _ _ (Nat.zero_add _),decide_eq_true (aLQ r4)];rfl
theorem aFq {a:List Rat} (h:∀x∈a,x=0) (j:Nat):pL a j=0:=by
 by_cases e:j<a.length
 ·exact h _ (vR e)
 ·unfold pL;rw [List.getD_eq_getElem?_getD,List.getElem?_eq_none (by omega)];rfl
theorem aK7 {l:List Int} (hl:aGF l) (rest:Bool):∃s,aON s∧aB9 s.dofs s.load s.v s.rows=true∧vH 4 s.load∧Ev (fun K=>jX K l rest) s:=by
 obtain⟨v0,a1,a2,a3⟩:=aAR hl 0 (m:=4) (by omega)
 obtain⟨n,hn⟩:∃n:Nat,1+v0=(n:Int):=⟨(1+v0).toNat,by omega⟩
 have e1:aP (1+v0)=some (n:Int):=by rw [kM (by omega),hn]
 obtain⟨a,b,d,g1,g2,g3,g4,g5,g6,g8,g9,g7⟩:=aEq hl (n:=n) (by omega) n 0 [] [] [] (by omega) rfl rfl rfl (fun t h=>absurd h List.not_mem_nil) (fun t h=>absurd h List.not_mem_nil) (fun t h=>absurd h List.not_mem_nil) (fun t h=>absurd h List.not_mem_nil) rfl
 obtain⟨v5,b1,b2,b3⟩:=aAR hl 5 (m:=3) (by omega)
 obtain⟨v8,c1,c2,c3⟩:=aAR hl 8 (m:=5) (by omega)
 obtain⟨r,d1,d2,d3⟩:=aDJ hl n (by omega) c1 c3 4 0 [] rfl rfl (fun x h=>absurd h List.not_mem_nil)
 obtain⟨r',d1',d2',d3'⟩:=aA2 hl rest n (by omega) c1 c3 4 0 [] rfl rfl (fun x h=>absurd h List.not_mem_nil)
 simp only [Int.natCast_zero] at g7 d3 d3'
 by_cases h5:0<v5
 ·cases rest
  ·obtain⟨v6,f1,f2,f3⟩:=aAR hl 6 (m:=9) (by omega)
   obtain⟨v7,f4,f5,f6⟩:=aAR hl 7 (m:=3) (by omega)
   obtain⟨q,q1,q2,q3⟩:=aCg (k:=8) (p:=v6-4) (q:=1+v7) (by omega) (by omega) (by omega) (by omega)
   have e2:aP ((n:Int)-1)=some ((n-1:Nat):Int):=zD (m:=0) (by omega) (by omega)
   have e3:aP (v6-4)=some (v6-4):=kM (by omega)
   have e4:aP (1+v7)=some (1+v7):=kM (by omega)
   refine⟨⟨d,b,a.set (n-1) q,r'⟩,⟨by simp only;omega,by simp only;omega,g6,by simp only;omega,by simp only [List.length_set];omega,(fun x hx=>(g5 x hx).mono (by omega)),fun x hx=>?_,fun x hx=>(d1' x hx).1.1,d2',fun x hx=>(d1' x hx).1⟩,aHK (n:=n) (w:=n-1) (by omega) (by omega) g3 g2 (by simp only [List.length_set];omega) g9 d1' fun j hj=>by unfold pL;rw [List.getD_eq_getElem?_getD,List.getElem?_set_ne (by omega),←List.getD_eq_getElem?_getD];exact aFq g8 j,g5,⟨6+n,fun K hK=>?_⟩⟩
   ·rcases List.mem_or_eq_of_mem_set hx with h|h
    ·exact g4 x h
    ·rw [h];exact q3
   ·simp only [jX,a1,oB,e1,g7 K K (by omega),iT,b1,dT h5,bT,Bool.not_false,e2,f1,e3,f4,e4,q1,aHt (l:=a) (i:=n-1) (by omega),stG (xs:=a) (i:=n-1) (v:=q) (by omega),iQ,d3' K K (by omega) (by omega),kH]
  ·refine⟨⟨d,b,a,r'⟩,⟨by simp only;omega,by simp only;omega,g6,by simp only;omega,by simp only;omega,(fun x hx=>(g5 x hx).mono (by omega)),g4,fun x hx=>(d1' x hx).1.1,d2',fun x hx=>(d1' x hx).1⟩,aHK (n:=n) (w:=n) (by omega) (by omega) g3 g2 g1 g9 d1' fun j _=>aFq g8 j,g5,⟨6+n,fun K hK=>?_⟩⟩
   simp only [jX,a1,oB,e1,g7 K K (by omega),iT,b1,dT h5,bT,Bool.not_true,bM,iQ,d3' K K (by omega) (by omega),kH]
 ·refine⟨⟨d,b,a,r⟩,⟨by simp only;omega,by simp only;omega,g6,by simp only;omega,by simp only;omega,(fun x hx=>(g5 x hx).mono (by omega)),g4,fun x hx=>(d1 x hx).1.1,d2,fun x hx=>(d1 x hx).1⟩,aHK (n:=n) (w:=n) (by omega) (by omega) g3 g2 g1 g9 d1 fun j _=>aFq g8 j,g5,⟨6+n,fun K hK=>?_⟩⟩
  simp only [jX,a1,oB,e1,g7 K K (by omega),iT,b1,dF h5,bM,mU,d3 K K (by omega) (by omega),mP]
end Go.Proofs.YtcjdedkdoagifaaGreat
set_option linter.unusedVariables false
namespace Go.Proofs.YtcjdedkdoagifaaGreat
end Go.Proofs.YtcjdedkdoagifaaGreat
set_option linter.unusedVariables false
namespace Go.Proofs.YtcjdedkdoagifaaGreat
theorem aME {c:Rat} {f:Nat→Rat} {n:Nat} (t:aE):trm (mp (fun j=>c*f j) n) t=c*trm (mp f n) t:=by
 unfold trm
 rw [bV,bV]
 by_cases h:0≤t.dof∧t.dof<(n:Int)
 ·rw [decide_eq_true h,bT,bT,zU (show t.dof.toNat<n by omega),zU (show t.dof.toNat<n by omega)];grind
 ·rw [decide_eq_false h,bM,bM,Rat.mul_zero]
theorem aId {c:Rat} {f:Nat→Rat} {n:Nat}:∀(l:List aE) (x:Rat),rtf (mp (fun j=>c*f j) n) l (c*x)=c*rtf (mp f n) l x
 |[],x=>rfl
 |t::l,x=>by
  unfold rtf
  rw [aME,←Rat.mul_add];exact aId l _
theorem aKU {c:Rat} {f:Nat→Rat} {n:Nat} (l:List aE):rt l (mp (fun j=>c*f j) n)=c*rt l (mp f n):=by
 have:=aId (c:=c) (f:=f) (n:=n) l 0
 rwa [Rat.mul_zero] at this
theorem aPz {c:Rat} {v:List Rat} {l:List aA} {f:Nat→Rat} {n k:Nat}:rv v l (mp (fun j=>c*f j) n) k=c*rv v l (mp f n) k:=by
 unfold rv
 rw [aKU,aKU]
 split
 ·rfl
 ·split
  ·rfl
  ·split
   ·grind
   ·rw [Rat.mul_zero]
end Go.Proofs.YtcjdedkdoagifaaGreat
set_option linter.unusedVariables false
namespace Go.Proofs.YtcjdedkdoagifaaGreat
/-- What kills the tableau kills the first one. -/
def KE (n w:Nat) (Z T:Nat→Nat→Rat):Prop:=∀x:Nat→Rat,(∀i,i<n→sm (fun k=>T i k*x k) w=0)→∀i,i<n→sm (fun k=>Z i k*x k) w=0
theorem KE.pivot {n w r c:Nat} {Z T:Nat→Nat→Rat} (h:KE n w Z T) (hr:r<n) (hp:T r c≠0):KE n w Z (t5 T r c):=fun x hx=>h x fun i hi=>by
 have e0:sm (fun k=>T r k*x k) w=0:=by
  have h1:=hx r hr
  have e:sm (fun k=>t5 T r c r k*x k) w=(1/T r c)*sm (fun k=>T r k*x k) w:=by
   rw [←w9];exact eY fun k _=>by unfold t5;rw [if_pos rfl];grind
  rw [e] at h1
  grind
 by_cases e:i=r
 ·rw [e];exact e0
 ·have h1:=hx i hi
  have e1:sm (fun k=>t5 T r c i k*x k) w=sm (fun k=>T i k*x k) w-(T i c/T r c)*sm (fun k=>T r k*x k) w:=by
   rw [←aDx];exact eY fun k _=>by unfold t5;rw [if_neg e];grind
  rw [e1,e0] at h1
  grind
def bx (T:Nat→Nat→Rat) (b:Nat→Nat) (n k:Nat):Rat:=if k=2*n+1 then -1 else sm (fun i=>if b i=k then T i (2*n+1) else 0) n
theorem aQY {n w:Nat} {Z T:Nat→Nat→Rat} {b:Nat→Nat} (h:TI n w Z T b) (hb:∀j,j<n→b j≤2*n) {j:Nat} (hj:j<n):bx T b n (b j)=T j (2*n+1):=by
 have:=hb j hj
 unfold bx
 rw [if_neg (by omega),aB0 hj fun i hi hne=>if_neg fun e=>hne (h.inj hi hj e),if_pos rfl]
theorem aIr {n:Nat} {T:Nat→Nat→Rat} {b:Nat→Nat} {k:Nat} (hk:k≠2*n+1) (h:∀i,i<n→b i≠k):bx T b n k=0:=by
 unfold bx
 rw [if_neg hk]
 exact aAy fun i hi=>if_neg (h i hi)
theorem aMM {n:Nat} {Z T:Nat→Nat→Rat} {b:Nat→Nat} (h:TI n (2*n+2) Z T b) (hb:∀j,j<n→b j≤2*n) {i:Nat} (hi:i<n):sm (fun k=>T i k*bx T b n k) (2*n+2)=0:=by
 show sm _ (2*n+1)+T i (2*n+1)*bx T b n (2*n+1)=0
 have e1:bx T b n (2*n+1)=-1:=if_pos rfl
 have e2:sm (fun k=>T i k*bx T b n k) (2*n+1)=sm (fun k=>sm (fun j=>if b j=k then T i k*T j (2*n+1) else 0) n) (2*n+1):=eY fun k hk=>by
  unfold bx
  rw [if_neg (by omega),←w9]
  refine eY fun j _=>?_
  by_cases e:b j=k
  ·rw [if_pos e,if_pos e]
  ·rw [if_neg e,if_neg e,Rat.mul_zero]
 have e3:sm (fun j=>sm (fun k=>if b j=k then T i k*T j (2*n+1) else 0) (2*n+1)) n=T i (2*n+1):=by
  have:sm (fun j=>sm (fun k=>if b j=k then T i k*T j (2*n+1) else 0) (2*n+1)) n=sm (fun j=>T i (b j)*T j (2*n+1)) n:=eY fun j hj=>by
   have:=hb j hj
   rw [aB0 (p:=b j) (by omega) fun k _ hne=>if_neg fun e=>hne e.symm,if_pos rfl]
  rw [this,aB0 hi fun j hj hne=>by rw [h.un i j hi hj,if_neg fun e=>hne e.symm,Rat.zero_mul],h.un i i hi hi,if_pos rfl,Rat.one_mul]
 rw [e2,aFw,e3,e1]
 grind
theorem aDN (f:Nat→Rat) (a:Nat):∀b,sm f (a+b)=sm f a+sm (fun j=>f (a+j)) b
 |0=>by show sm f a=sm f a+0;rw [Rat.add_zero]
 |b+1=>by
  show sm f (a+b)+f (a+b)=sm f a+(sm (fun j=>f (a+j)) b+f (a+b))
  rw [aDN f a b,Rat.add_assoc]
theorem aOD {M:Nat→Nat→Rat} {q x:Nat→Rat} {n i:Nat} (hi:i<n) (h:sm (fun k=>sJ M q n i k*x k) (2*n+2)=0) (h1:x (2*n+1)=-1):x i=sm (fun j=>M i j*x (n+j)) n+x (2*n)+q i:=by
 have e:2*n+2=(n+n)+2:=by omega
 rw [e,aDN,aDN] at h
 have e1:sm (fun k=>sJ M q n i k*x k) n=x i:=by
  have:sJ M q n i i=1:=by unfold sJ;rw [if_pos hi,if_pos rfl]
  rw [aB0 hi fun k hk hne=>by unfold sJ;rw [if_pos hk,if_neg fun e=>hne e.symm,Rat.zero_mul],this,Rat.one_mul]
 have e2:sm (fun j=>sJ M q n i (n+j)*x (n+j)) n=-(sm (fun j=>M i j*x (n+j)) n):=by
  rw [←aDp]
  refine eY fun j hj=>?_
  unfold sJ
  rw [if_neg (by omega),if_pos (by omega),show n+j-n=j by omega,Rat.neg_mul]
 have e3:sm (fun j=>sJ M q n i (n+n+j)*x (n+n+j)) 2=-(x (2*n))-q i:=by
  show 0+sJ M q n i (n+n+0)*x (n+n+0)+sJ M q n i (n+n+1)*x (n+n+1)=_
  rw [show n+n+0=2*n by omega,show n+n+1=2*n+1 by omega,h1]
  unfold sJ
  rw [if_neg (by omega),if_neg (by omega),if_pos rfl,if_neg (by omega),if_neg (by omega),if_neg (by omega)]
  grind
 rw [e1,e2,e3] at h
 grind
def nn (f:Nat→Rat):Nat→Nat→Prop
 |0,_=>True
 |t+1,j=>0<f j∨(f j=0∧nn f t (j+1))
theorem nn.congr {f g:Nat→Rat}:∀{t j:Nat},(∀k,f k=g k)→nn f t j→nn g t j
 |0,_,_,_=>trivial
 |t+1,j,e,h=>by
  unfold nn at h ⊢
  rw [←e j]
  exact h.imp id fun h=>⟨h.1,nn.congr e h.2⟩
theorem nn.add {f g:Nat→Rat}:∀{t j:Nat},nn f t j→nn g t j→nn (fun k=>f k+g k) t j
 |0,_,_,_=>trivial
 |t+1,j,h1,h2=>by
  unfold nn at h1 h2 ⊢
  rcases h1 with h1|⟨h1,k1⟩<;>rcases h2 with h2|⟨h2,k2⟩
  ·left;grind
  ·left;grind
  ·left;grind
  ·right;exact⟨by grind,nn.add k1 k2⟩
theorem nn.mul {f:Nat→Rat} {a:Rat} (ha:0≤a):∀{t j:Nat},nn f t j→nn (fun k=>a*f k) t j
 |0,_,_=>trivial
 |t+1,j,h=>by
  unfold nn at h ⊢
  by_cases e:a=0
  ·right
   refine⟨by rw [e,Rat.zero_mul],?_⟩
   have:∀t j,nn (fun k=>a*f k) t j:=fun t=>by
    induction t with
    |zero=>intro j;trivial
    |succ t ih=>intro j;exact Or.inr ⟨by show a*f j=0;rw [e,Rat.zero_mul],ih (j+1)⟩
   exact this t (j+1)
  ·rcases h with h|⟨h,k⟩
   ·left
    exact Rat.mul_pos (by grind) h
   ·right
    exact⟨by rw [h,Rat.mul_zero],nn.mul ha k⟩
theorem nn.head {f:Nat→Rat} {t j:Nat} (h:nn f (t+1) j):0≤f j:=by
 unfold nn at h
 rcases h with h|h
 ·exact Rat.le_of_lt h
 ·rw [h.1];exact Rat.le_refl
theorem aG0 {T:Nat→Nat→Rat} {n i k:Nat} {c d:Rat}:∀t j,(lx T n i c k d t j=false→nn (fun j=>T i (nH n j)/c-T k (nH n j)/d) t j)∧(lx T n i c k d t j=true→nn (fun j=>T k (nH n j)/d-T i (nH n j)/c) t j)
 |0,j=>⟨fun _=>trivial,fun h=>absurd h (by unfold lx;decide)⟩
 |t+1,j=>by
  obtain⟨i1,i2⟩:=aG0 (T:=T) (n:=n) (i:=i) (k:=k) (c:=c) (d:=d) t (j+1)
  unfold lx nn
  by_cases e:T i (nH n j)/c=T k (nH n j)/d
  ·rw [decide_eq_true e,bT]
   exact⟨fun h=>Or.inr ⟨by rw [e];grind,i1 h⟩,fun h=>Or.inr ⟨by rw [e];grind,i2 h⟩⟩
  ·rw [decide_eq_false e,bM]
   refine⟨fun h=>Or.inl ?_,fun h=>Or.inl ?_⟩
   ·have:=of_decide_eq_false h
    grind
   ·have:=of_decide_eq_true h
    grind
def aFa (T:Nat→Nat→Rat) (n c k r:Nat):Prop:=nn (fun j=>T k (nH n j)/T k c-T r (nH n j)/T r c) (n+1) 0
theorem aBf {T:Nat→Nat→Rat} {n c:Nat}:∀t i s r,(∀q,s=some q→∀k,k<i→0<(T k c).num.sign→aFa T n c k q)→(s=none→∀k,k<i→¬0<(T k c).num.sign)→sel T n c t i s=some r→∀k,k<i+t→0<(T k c).num.sign→aFa T n c k r
 |0,i,s,r,h1,h2,e,k,hk,hp=>h1 r e k (by omega) hp
 |t+1,i,s,r,h1,h2,e,k,hk,hp=>by
  unfold sel at e
  have refl:aFa T n c i i:=by
   have:∀t j,nn (fun j=>T i (nH n j)/T i c-T i (nH n j)/T i c) t j:=fun t=>by
    induction t with
    |zero=>intro j;trivial
    |succ t ih=>intro j;exact Or.inr ⟨by grind,ih (j+1)⟩
   exact this _ _
  by_cases hi:0<(T i c).num.sign
  ·rw [decide_eq_true hi,bT] at e
   cases s with
   |none=>
    refine aBf t (i+1) (some i) r (fun q hq k hk hp=>?_) (fun h=>by cases h) e k (by omega) hp
    cases hq
    by_cases e2:k=i
    ·rw [e2];exact refl
    ·exact absurd hp (h2 rfl k (by omega))
   |some p=>
    simp only at e
    cases hl:les T n i (T i c) p (T p c)
    ·rw [hl,bM] at e
     refine aBf t (i+1) (some p) r (fun q hq k hk hp=>?_) (fun h=>by cases h) e k (by omega) hp
     cases hq
     by_cases e2:k=i
     ·rw [e2];exact(aG0 _ _).1 hl
     ·exact h1 p rfl k (by omega) hp
    ·rw [hl,bT] at e
     refine aBf t (i+1) (some i) r (fun q hq k hk hp=>?_) (fun h=>by cases h) e k (by omega) hp
     cases hq
     by_cases e2:k=i
     ·rw [e2];exact refl
     ·exact((h1 p rfl k (by omega) hp).add ((aG0 _ _).2 hl)).congr fun j=>by grind
  ·rw [decide_eq_false hi,bM] at e
   refine aBf t (i+1) s r (fun q hq k hk hp=>?_) (fun h k hk=>?_) e k (by omega) hp
   ·by_cases e2:k=i
    ·rw [e2] at hp;exact absurd hp hi
    ·exact h1 q hq k (by omega) hp
   ·by_cases e2:k=i
    ·rw [e2];exact hi
    ·exact h2 h k (by omega)
theorem aGd {a:Rat}:0<a.num↔0<a:=by
 have h1:=Rat.num_nonneg (q:=a)
 have h2:=Rat.num_eq_zero (q:=a)
 constructor
 ·intro h
  have h3:0≤a:=h1.1 (by omega)
  have h4:a≠0:=fun e=>by have:=h2.2 e;omega
  grind
 ·intro h
  have h3:0≤a.num:=h1.2 (by grind)
  have h4:a.num≠0:=fun e=>by have:=h2.1 e;grind
  omega
theorem aMD {x:Rat}:0<x.num.sign↔0<x:=by rw [Int.sign_pos_iff];exact aGd
def LX (n:Nat) (T:Nat→Nat→Rat):Prop:=∀i,i<n→nn (fun j=>T i (nH n j)) (n+1) 0
theorem LX.last {n i:Nat} {T:Nat→Nat→Rat} (h:LX n T) (hi:i<n):0≤T i (2*n+1):=(h i hi).head
theorem LX.pivot {n r c:Nat} {T:Nat→Nat→Rat} (h:LX n T) (hr:r<n) (hp:0<T r c) (hm:∀k,k<n→0<T k c→aFa T n c k r):LX n (t5 T r c):=fun i hi=>by
 have hinv:(0:Rat)≤1/T r c:=by rw [Rat.div_def,Rat.one_mul];exact Rat.le_of_lt (Rat.inv_pos.2 hp)
 by_cases e:i=r
 ·exact((h r hr).mul hinv).congr fun j=>by unfold t5;rw [if_pos e];grind
 ·by_cases h2:0<T i c
  ·exact((hm i hi h2).mul (Rat.le_of_lt h2)).congr fun j=>by unfold t5;rw [if_neg e];grind
  ·have h3:0≤(-(T i c))*(1/T r c):=Rat.mul_nonneg (by grind) hinv
   exact((h i hi).add ((h r hr).mul h3)).congr fun j=>by unfold t5;rw [if_neg e];grind
theorem aDi {T:Nat→Nat→Rat} {n:Nat}:∀t i r,(∀k,k<i→nn (fun j=>T k (nH n j)-T r (nH n j)) (n+1) 0)→∀k,k<i+t→nn (fun j=>T k (nH n j)-T (x0 T n t i r) (nH n j)) (n+1) 0
 |0,i,r,h,k,hk=>h k (by omega)
 |t+1,i,r,h,k,hk=>by
  unfold x0
  cases hl:les T n i 1 r 1
  ·rw [bM]
   refine aDi t (i+1) r (fun k hk=>?_) k (by omega)
   by_cases e:k=i
   ·rw [e];exact((aG0 _ _).1 hl).congr fun j=>by grind
   ·exact h k (by omega)
  ·rw [bT]
   have h1:=(aG0 _ _).2 hl
   refine aDi t (i+1) i (fun k hk=>?_) k (by omega)
   by_cases e:k=i
   ·rw [e]
    have:∀t j,nn (fun j=>T i (nH n j)-T i (nH n j)) t j:=fun t=>by
     induction t with
     |zero=>intro j;trivial
     |succ t ih=>intro j;exact Or.inr ⟨by grind,ih (j+1)⟩
    exact this _ _
   ·exact((h k (by omega)).add h1).congr fun j=>by grind
def cpl (n x:Nat):Nat:=if x<n then x+n else x-n
theorem aMl {n x:Nat} (h:x<2*n):cpl n x<2*n:=by unfold cpl;split<;>omega
theorem aFs {n x:Nat} (h:x<2*n):cpl n (cpl n x)=x:=by
 unfold cpl
 by_cases e:x<n
 ·rw [if_pos e,if_neg (by omega)];omega
 ·rw [if_neg e,if_pos (by omega)];omega
theorem aO7 {n x:Nat} (hn:0<n):cpl n x≠x∨2*n≤x:=by unfold cpl;split<;>omega
structure CB (n:Nat) (b:Nat→Nat) (c:Nat):Prop where
 inj:∀i j,i<n→j<n→b i=b j→i=j
 nc:∀i,i<n→b i≠c
 np:c<2*n→∀i,i<n→b i≠cpl n c
 pr:∀i j,i<n→j<n→b i<2*n→b j≠cpl n (b i)
theorem CB.pr' {n r c:Nat} {b:Nat→Nat} (h:CB n b c) (hr:r<n) (hc:c≤2*n):∀i j,i<n→j<n→iL b r c i<2*n→iL b r c j≠cpl n (iL b r c i):=fun i j hi hj hlt=>by
 by_cases e1:i=r
 ·subst e1
  rw [aX] at hlt ⊢
  by_cases e2:j=i
  ·subst e2;rw [aX]
   intro e
   rcases aO7 (n:=n) (x:=c) (by omega) with h1|h1
   ·exact h1 e.symm
   ·omega
  ·rw [cF e2];exact h.np hlt j hj
 ·rw [cF e1] at hlt ⊢
  by_cases e2:j=r
  ·subst e2;rw [aX]
   intro e
   have h1:=aMl hlt
   have h2:b i=cpl n c:=by rw [e,aFs hlt]
   exact h.np (by omega) i hi h2
  ·rw [cF e2];exact h.pr i j hi hj hlt
theorem CB.inj' {n r c:Nat} {b:Nat→Nat} (h:CB n b c):∀i j,i<n→j<n→iL b r c i=iL b r c j→i=j:=fun i j hi hj e=>by
 by_cases e1:i=r
 ·by_cases e2:j=r
  ·omega
  ·rw [e1,aX,cF e2] at e
   exact absurd e.symm (h.nc j hj)
 ·by_cases e2:j=r
  ·rw [e2,aX,cF e1] at e
   exact absurd e (h.nc i hi)
  ·rw [cF e1,cF e2] at e
   exact h.inj i j hi hj e
theorem CB.next {n r c:Nat} {b:Nat→Nat} (h:CB n b c) (hr:r<n) (hc:c≤2*n) (hl:b r<2*n):CB n (iL b r c) (cpl n (b r)):=by
 refine⟨h.inj',fun i hi=>?_,fun _ i hi=>?_,h.pr' hr hc⟩
 ·by_cases e:i=r
  ·rw [e,aX]
   intro e2
   have h1:=aMl hl
   exact h.np (by omega) r hr (by rw [e2,aFs hl])
  ·rw [cF e];exact h.pr r i hr hi hl
 ·rw [aFs hl]
  by_cases e:i=r
  ·rw [e,aX];exact fun e2=>h.nc r hr e2.symm
  ·rw [cF e];exact fun e2=>e (h.inj i r hi hr e2)
structure Sol (M:Nat→Nat→Rat) (q:Nat→Rat) (n:Nat) (z w:Nat→Rat):Prop where
 z0:∀j,j<n→0≤z j
 w0:∀j,j<n→0≤w j
 eq:∀i,i<n→w i=sm (fun j=>M i j*z j) n+q i
 zw:∀j,j<n→z j=0∨w j=0
theorem aNu {n:Nat} {T:Nat→Nat→Rat} {b:Nat→Nat} (hi:∀i j,i<n→j<n→b i=b j→i=j):∀m,m≤n→(∀j,j<n→swv T b n m j=sm (fun i=>if b i=j then T i (2*n+1) else 0) m)∧(∀j,j<n→zM T b n m j=sm (fun i=>if b i=n+j then T i (2*n+1) else 0) m)
 |0,_=>⟨fun _ _=>rfl,fun _ _=>rfl⟩
 |m+1,hm=>by
  obtain⟨h1,h2⟩:=aNu (T:=T) hi m (by omega)
  have zero:sm (fun i=>if b i=b m then T i (2*n+1) else 0) m=0:=aAy fun i h=>if_neg fun e=>by have:=hi i m (by omega) (by omega) e;omega
  refine⟨fun j hj=>?_,fun j hj=>?_⟩
  ·show swv T b n (m+1) j=sm _ m+(if b m=j then T m (2*n+1) else 0)
   rw [←h1 j hj]
   have w1:swv T b n (m+1)=if b m<n then iL (swv T b n m) (b m) (T m (2*n+1)) else swv T b n m:=rfl
   rw [w1]
   by_cases e:b m<n
   ·rw [if_pos e]
    by_cases e2:b m=j
    ·rw [if_pos e2,←e2,aX,h1 (b m) e,zero];grind
    ·rw [if_neg e2,cF (fun h=>e2 h.symm),Rat.add_zero]
   ·rw [if_neg e,if_neg (by omega),Rat.add_zero]
  ·show zM T b n (m+1) j=sm _ m+(if b m=n+j then T m (2*n+1) else 0)
   rw [←h2 j hj]
   have w1:zM T b n (m+1)=if b m<n then zM T b n m else if b m<2*n then iL (zM T b n m) (b m-n) (T m (2*n+1)) else zM T b n m:=rfl
   rw [w1]
   by_cases e:b m<n
   ·rw [if_pos e,if_neg (by omega),Rat.add_zero]
   ·rw [if_neg e]
    by_cases e1:b m<2*n
    ·rw [if_pos e1]
     by_cases e2:b m=n+j
     ·rw [if_pos e2,show b m-n=j by omega,aX,h2 j hj,←e2,zero];grind
     ·rw [if_neg e2,cF (by omega),Rat.add_zero]
    ·rw [if_neg e1,if_neg (by omega),Rat.add_zero]
theorem aM8 {M T:Nat→Nat→Rat} {q:Nat→Rat} {n:Nat} {b:Nat→Nat} (ti:TI n (2*n+2) (sJ M q n) T b) (ke:KE n (2*n+2) (sJ M q n) T) (lx:LX n T) (hb:∀i,i<n→b i<2*n) (pr:∀i j,i<n→j<n→b i<2*n→b j≠cpl n (b i)):Sol M q n (zM T b n n) (swv T b n n):=by
 have inj:∀i j,i<n→j<n→b i=b j→i=j:=fun i j hi hj e=>ti.inj hi hj e
 obtain⟨h1,h2⟩:=aNu (T:=T) inj n (Nat.le_refl n)
 have ew:∀j,j<n→swv T b n n j=bx T b n j:=fun j hj=>by rw [h1 j hj];unfold bx;rw [if_neg (by omega)]
 have ez:∀j,j<n→zM T b n n j=bx T b n (n+j):=fun j hj=>by rw [h2 j hj];unfold bx;rw [if_neg (by omega)]
 have hb':∀i,i<n→b i≤2*n:=fun i hi=>by have:=hb i hi;omega
 have nnb:∀k,k<2*n→0≤bx T b n k:=fun k hk=>by
  by_cases e:∃i,i<n∧b i=k
  ·obtain⟨i,hi,e⟩:=e
   rw [←e,aQY ti hb' hi];exact lx.last hi
  ·rw [aIr (by omega) fun i hi e2=>e ⟨i,hi,e2⟩];exact Rat.le_refl
 refine⟨fun j hj=>by rw [ez j hj];exact nnb _ (by omega),fun j hj=>by rw [ew j hj];exact nnb _ (by omega),fun i hi=>?_,fun j hj=>?_⟩
 ·have:=aOD hi (ke (bx T b n) (fun i hi=>aMM ti hb' hi) i hi) (if_pos rfl)
  rw [aIr (k:=2*n) (by omega) (fun i hi=>by have:=hb i hi;omega),Rat.add_zero] at this
  rw [ew i hi,this]
  congr 1
  exact eY fun j hj=>by rw [ez j hj]
 ·rw [ez j hj,ew j hj]
  by_cases e:∃i,i<n∧b i=n+j
  ·obtain⟨i,hi,e⟩:=e
   right
   refine aIr (by omega) fun i' hi' e2=>?_
   refine pr i i' hi hi' (by omega) ?_
   rw [e2,e];unfold cpl;rw [if_neg (by omega)];omega
  ·left;exact aIr (by omega) fun i hi e2=>e ⟨i,hi,e2⟩
theorem aIK {M:Nat→Nat→Rat} {q:Nat→Rat} {n most:Nat}:∀f T b r c cnt,LI n (sJ M q n) T b r c→KE n (2*n+2) (sJ M q n) T→LX n (t5 T r c)→CB n b c→(lem n most f T b r c cnt).2=0→∃z w,(lem n most f T b r c cnt).1.z=mp z n∧(lem n most f T b r c cnt).1.w=mp w n∧Sol M q n z w
 |0,T,b,r,c,cnt,li,ke,lx,cb,h0=>absurd h0 (by unfold lem;decide)
 |f+1,T,b,r,c,cnt,li,ke,lx,cb,h0=>by
  have hc:=li.hc
  have hr:=li.hr
  have ti':=li.ti.pivot hr (show c<2*n+2 by omega) li.hp
  have ke':=ke.pivot hr li.hp
  unfold lem at h0 ⊢
  by_cases e:cnt=most
  ·rw [if_pos e] at h0;exact absurd h0 (by decide)
  ·rw [if_neg e] at h0 ⊢
   by_cases e2:b r=2*n
   ·rw [if_pos e2]
    refine⟨_,_,rfl,rfl,aM8 ti' ke' lx (fun i hi=>?_) (cb.pr' hr hc)⟩
    by_cases e3:i=r
    ·rw [e3,aX]
     have:=cb.nc r hr
     omega
    ·rw [cF e3]
     have h5:=li.hb i hi
     have h6:b i≠2*n:=fun h=>e3 (cb.inj i r hi hr (by rw [h,e2]))
     omega
   ·rw [if_neg e2] at h0 ⊢
    have hlt:b r<2*n:=by have:=li.hb r hr;omega
    cases hs:sel (t5 T r c) n (if b r<n then b r+n else b r-n) n 0 none with
    |none=>rw [hs] at h0;exact absurd h0 (show¬(15:Int)=0 by decide)
    |some r'=>
     rw [hs] at h0
     obtain⟨s1,s2⟩:=xT n 0 none r' (fun q hq=>by cases hq) hs
     have hm:=aBf n 0 none r' (fun q hq=>by cases hq) (fun _ k hk=>by omega) hs
     exact aIK f (t5 T r c) (iL b r c) r' _ (cnt+1) (li.next e2 hs) ke' (lx.pivot (by omega) (aMD.1 s2) fun k hk hp=>hm k (by omega) (aMD.2 hp)) (cb.next hr hc hlt) h0
theorem aHE {M:Nat→Nat→Rat} {q:Nat→Rat} {n i:Nat}:sJ M q n i (2*n)=-1:=by
 unfold sJ;rw [if_neg (by omega),if_neg (by omega),if_pos rfl]
theorem aG4 {M:Nat→Nat→Rat} {q:Nat→Rat} {n i:Nat}:sJ M q n i (2*n+1)=q i:=by
 unfold sJ;rw [if_neg (by omega),if_neg (by omega),if_neg (by omega)]
theorem aN3 {q:Nat→Rat}:∀t i,ng q t i=true→∃k,i≤k∧k<i+t∧q k<0
 |0,i,h=>absurd h (by unfold ng;decide)
 |t+1,i,h=>by
  unfold ng at h
  by_cases e:(q i).num.sign<0
  ·refine⟨i,by omega,by omega,?_⟩
   rw [Int.sign_neg_iff,←Int.not_le,Rat.num_nonneg,Rat.not_le] at e;exact e
  ·rw [decide_eq_false e,bM] at h
   obtain⟨k,h1,h2,h3⟩:=aN3 t (i+1) h
   exact⟨k,by omega,by omega,h3⟩
theorem aL4 {q:Nat→Rat}:∀t i,ng q t i=false→∀k,i≤k→k<i+t→0≤q k
 |0,i,h,k,h1,h2=>by omega
 |t+1,i,h,k,h1,h2=>by
  unfold ng at h
  by_cases e:(q i).num.sign<0
  ·rw [decide_eq_true e,bT] at h;cases h
  ·rw [decide_eq_false e,bM] at h
   by_cases e2:k=i
   ·rw [Int.sign_neg_iff,←Int.not_le,Rat.num_nonneg] at e
    rw [e2];exact Decidable.not_not.1 e
   ·exact aL4 t (i+1) h k (by omega) (by omega)
theorem aOV {M:Nat→Nat→Rat} {q:Nat→Rat} {n:Nat} (hneg:ng q n 0=true):LX n (t5 (sJ M q n) (x0 (sJ M q n) n n 0 0) (2*n)):=fun i hi=>by
 have hm:=aDi (n:=n) (T:=sJ M q n) n 0 0 (fun k hk=>by omega)
 generalize hr:x0 (sJ M q n) n n 0 0=r at *
 have hrn:r<n:=by rw [←hr];exact aAu n 0 0 (aCC hneg) (by omega)
 by_cases e:i=r
 ·unfold nn
  left
  obtain⟨k,_,k2,k3⟩:=aN3 n 0 hneg
  have h1:=(hm k k2).head
  have e1:nH n 0=2*n+1:=rfl
  simp only [e1,aG4] at h1
  show 0<t5 (sJ M q n) r (2*n) i (nH n 0)
  unfold t5
  rw [if_pos e,e1,aG4,aHE]
  grind
 ·refine(hm i (by omega)).congr fun j=>?_
  unfold t5
  rw [if_neg e,aHE,aHE]
  grind
theorem aPh {n:Nat}:CB n (fun j=>j) (2*n):=
 ⟨fun i j _ _ e=>e,fun i hi=>by show i≠2*n;omega,fun h=>absurd h (Nat.lt_irrefl _),fun i j hi hj _=>by show j≠cpl n i;unfold cpl;rw [if_pos hi];omega⟩
theorem aMi {M:Nat→Nat→Rat} {q:Nat→Rat} {n most:Nat} (h0:(uU M q n most).2=0):∃z w,(uU M q n most).1.z=mp z n∧(uU M q n most).1.w=mp w n∧Sol M q n z w:=by
 unfold uU at h0 ⊢
 cases hneg:ng q n 0
 ·rw [hneg,bM] at h0
  rw [bM]
  refine⟨_,_,rfl,rfl,fun _ _=>Rat.le_refl,fun j hj=>aL4 n 0 hneg j (by omega) (by omega),fun i hi=>?_,fun _ _=>Or.inl rfl⟩
  rw [aAy fun j _=>show M i j*z0 j=0 from Rat.mul_zero _,Rat.zero_add]
 ·rw [hneg,bT] at h0
  rw [bT]
  exact aIK _ _ _ _ _ _ (aEZ (aAu n 0 0 (aCC hneg) (by omega))) (fun x hx=>hx) (aOV hneg) aPh h0
end Go.Proofs.YtcjdedkdoagifaaGreat
set_option linter.unusedVariables false
namespace Go.Proofs.YtcjdedkdoagifaaGreat
def aLh (p:Nat→aF) (c:Rat) (q:Nat→aF):Nat→aF:=fun i=>⟨(p i).n+c*(q i).n,(p i).f+c*(q i).f⟩
theorem aOC {v:List Rat} {l:List aA} {z y:Nat→Rat} {c:Rat}:pz v l (fun k=>z k+c*y k)=aLh (pz v l z) c (pz v l y):=by
 funext i
 unfold pz aLh
 by_cases h:(jA l i).t.length=0
 ·simp only [if_pos h];congr 1;grind
 ·by_cases h2:(rt (jA l i).t v).num.sign≠0
  ·simp only [if_neg h,if_pos h2];congr 1;grind
  ·simp only [if_neg h,if_neg h2];congr 1;grind
theorem aKC {l:List aA} {p q:Nat→aF} {c:Rat} {m j:Nat}:rP l (aLh p c q) m j=rP l p m j+c*rP l q m j:=by
 unfold rP
 rw [←w9,←aE6]
 refine eY fun r _=>?_
 unfold rcq aLh
 grind
theorem aMW {d:List aG} {l:List aA} {p q:Nat→aF} {c:Rat}:xM d z0 l (aLh p c q)=fun j=>xM d z0 l p j+c*xM d z0 l q j:=by
 funext j
 unfold xM z0
 rw [aKC];grind
theorem aO0 {v:List Rat} {l:List aA} {z y:Nat→Rat} {c:Rat} {k:Nat}:zv v l (fun k=>z k+c*y k) k=zv v l z k+c*zv v l y k:=by
 unfold zv
 split
 ·grind
 ·split
  ·rfl
  ·split
   ·rfl
   ·grind
def gv (d:List aG) (v:List Rat) (l:List aA) (z:Nat→Rat) (i:Nat):Rat:=rv v l (mp (xM d z0 l (pz v l z)) d.length) i+zv v l z i
theorem aLn {d:List aG} {v:List Rat} {l:List aA} {z y:Nat→Rat} {c:Rat} {i:Nat}:gv d v l (fun k=>z k+c*y k) i=gv d v l z i+c*gv d v l y i:=by
 unfold gv
 rw [aOC,aMW,aO0,aHz,aPz];grind
theorem aMy {d:List aG} {v:List Rat} {l:List aA} {i:Nat}:gv d v l z0 i=0:=by
 have h:=aLn (d:=d) (v:=v) (l:=l) (z:=z0) (y:=z0) (c:=-1) (i:=i)
 have e:(fun k=>z0 k+ -1*z0 k)=z0:=by funext k;show(0:Rat)+ -1*0=0;grind
 rw [e] at h;grind
theorem aLO {d:List aG} {v:List Rat} {l:List aA} {z:Nat→Rat} {i:Nat}:∀m,gv d v l (tz z m) i=sm (fun k=>Mf d v l i k*z k) m
 |0=>by
  have e:tz z 0=z0:=funext fun k=>aBn (Nat.zero_le _)
  rw [e];exact aMy
 |m+1=>by
  have e:tz z (m+1)=fun k=>tz z m k+z m*ek m k:=funext fun k=>by
   by_cases h:k=m
   ·subst h
    rw [aH4 rfl,aBn (Nat.le_refl _)]
    unfold ek;rw [aX];grind
   ·rw [aCl h]
    unfold ek;rw [cF h];show _=_+z m*0;grind
  rw [e,aLn,aLO m]
  show _=sm _ m+Mf d v l i m*z m
  have:gv d v l (ek m) i=Mf d v l i m:=rfl
  rw [this];grind
theorem aO6 {d:List aG} {f v:List Rat} {l:List aA} {z:Nat→Rat} {n i:Nat} (hz:tz z n=z):sm (fun k=>Mf d v l i k*z k) n+qf d (pL f) v l i=vl v l (mp (xM d (pL f) l (pz v l z)) d.length) z i:=by
 rw [←aLO,hz]
 unfold gv vl qf
 rw [aEv (f:=pL f) (p:=pz v l z),aHz]
 generalize rv v l (mp (xM d (pL f) l p0) d.length) i=x
 generalize rv v l (mp (xM d z0 l (pz v l z)) d.length) i=y
 generalize zv v l z i=u
 grind
structure aHs (r:aA) (v:List Rat) (a:List Rat) (p:aF):Prop where
 n0:0≤p.n
 j0:0≤rt r.j a
 nj:p.n=0∨rt r.j a=0
 none:r.t.length=0→p.f=0
 slip:r.t.length≠0→rt r.t v≠0→p.f=(((-(rt r.t v).num.sign:Int):Rat)/((1:Int):Rat))*(r.mu*p.n)
 stick:r.t.length≠0→rt r.t v=0→p.f≤r.mu*p.n∧-(p.f)≤r.mu*p.n∧(0<rt r.t a→p.f=-(r.mu*p.n))∧(rt r.t a<0→p.f=r.mu*p.n)
theorem aK4 {d:List aG} {f v:List Rat} {l:List aA} {z w:Nat→Rat} (hz:tz z (off v l l.length)=z) (h:Sol (Mf d v l) (qf d (pL f) v l) (off v l l.length) z w) {r:Nat} (hr:r<l.length):aHs (jA l r) v (mp (xM d (pL f) l (pz v l z)) d.length) (pz v l z r):=by
 have W:∀i,i<off v l l.length→w i=vl v l (mp (xM d (pL f) l (pz v l z)) d.length) z i:=fun i hi=>by rw [h.eq i hi,aO6 hz]
 generalize mp (xM d (pL f) l (pz v l z)) d.length=a at *
 have q0:vq v l r 0:=.inl rfl
 have b0:=pY (v:=v) hr q0
 rw [Nat.add_zero] at b0
 have u0:uk v l (off v l r)=(r,0):=aCm q0 hr
 have w0:w (off v l r)=rt (jA l r).j a:=by
  rw [W _ b0]
  unfold vl rv zv
  simp only [u0,if_true];rw [Rat.add_zero]
 have z1:=h.z0 _ b0
 have z2:=h.w0 _ b0
 have z3:=h.zw _ b0
 rw [w0] at z2 z3
 have pn:(pz v l z r).n=z (off v l r):=by
  unfold pz
  split
  ·rfl
  ·split<;>rfl
 refine⟨by rw [pn];exact z1,z2,by rw [pn];exact z3,fun ht=>?_,fun ht hs=>?_,fun ht hs=>?_⟩
 ·unfold pz;rw [if_pos ht]
 ·have:(rt (jA l r).t v).num.sign≠0:=fun e=>hs (aBu.1 e)
  rw [pn]
  unfold pz;rw [if_neg ht,if_pos this]
 ·have hk:yS v (jA l r)=true:=by
   unfold yS
   rw [decide_eq_true (show 0<(jA l r).t.length by omega),decide_eq_true (aBu.2 hs)];rfl
  have q1:vq v l r 1:=.inr ⟨hk,by omega⟩
  have q2:vq v l r 2:=.inr ⟨hk,by omega⟩
  have q3:vq v l r 3:=.inr ⟨hk,by omega⟩
  have b1:=pY (v:=v) hr q1
  have b2:=pY (v:=v) hr q2
  have b3:=pY (v:=v) hr q3
  have w1:w (off v l r+1)=rt (jA l r).t a+z (off v l r+1+2):=by
   rw [W _ b1];unfold vl rv zv;simp only [aCm q1 hr];rfl
  have w2:w (off v l r+2)=-(rt (jA l r).t a)+z (off v l r+2+1):=by
   rw [W _ b2];unfold vl rv zv;simp only [aCm q2 hr];rfl
  have w3:w (off v l r+3)=0+((jA l r).mu*z (off v l r+3-3)-(z (off v l r+3-2)+z (off v l r+3-1))):=by
   rw [W _ b3];unfold vl rv zv;simp only [aCm q3 hr];rfl
  rw [show off v l r+1+2=off v l r+3 by omega] at w1
  rw [show off v l r+2+1=off v l r+3 by omega] at w2
  rw [show off v l r+3-3=off v l r by omega,show off v l r+3-2=off v l r+1 by omega,show off v l r+3-1=off v l r+2 by omega] at w3
  have f1:=h.z0 _ b1
  have f2:=h.z0 _ b2
  have f3:=h.z0 _ b3
  have g1:=h.w0 _ b1
  have g2:=h.w0 _ b2
  have g3:=h.w0 _ b3
  have c1:=h.zw _ b1
  have c2:=h.zw _ b2
  have c3:=h.zw _ b3
  rw [w1] at g1 c1
  rw [w2] at g2 c2
  rw [w3] at g3 c3
  have pf:(pz v l z r).f=z (off v l r+1)-z (off v l r+2):=by
   unfold pz;rw [if_neg ht,if_neg (fun e=>e (aBu.2 hs))]
  rw [pn,pf]
  generalize rt (jA l r).t a=t at *
  generalize z (off v l r+1)=x1 at *
  generalize z (off v l r+2)=x2 at *
  generalize z (off v l r+3)=x3 at *
  generalize(jA l r).mu*z (off v l r)=m at *
  refine⟨by grind,by grind,fun h=>?_,fun h=>?_⟩
  ·have e1:x1=0:=by grind
   have e3:0+(m-(x1+x2))=0:=by grind
   grind
  ·have e1:x2=0:=by grind
   have e3:0+(m-(x1+x2))=0:=by grind
   grind
theorem aGz {n most:Nat}:∀f T b r c cnt,(lem n most f T b r c cnt).2=0∨(lem n most f T b r c cnt).2=15∨(lem n most f T b r c cnt).2=16
 |0,T,b,r,c,cnt=>Or.inr (Or.inr rfl)
 |f+1,T,b,r,c,cnt=>by
  unfold lem
  by_cases e:cnt=most
  ·rw [if_pos e];exact Or.inr (Or.inr rfl)
  ·rw [if_neg e]
   by_cases e2:b r=2*n
   ·rw [if_pos e2];exact Or.inl rfl
   ·rw [if_neg e2]
    cases sel (t5 T r c) n (if b r<n then b r+n else b r-n) n 0 none with
    |none=>exact Or.inr (Or.inl rfl)
    |some r'=>exact aGz f _ _ _ _ _
theorem aJ1 {M:Nat→Nat→Rat} {q:Nat→Rat} {n most:Nat}:(uU M q n most).2=0∨(uU M q n most).2=15∨(uU M q n most).2=16:=by
 unfold uU
 cases ng q n 0
 ·exact Or.inl rfl
 ·exact aGz _ _ _ _ _ _
theorem aJF {d:List aG} {f v:List Rat} {l:List aA}:((aCc d f v l).2.2=15∨(aCc d f v l).2.2=16)∨∃z,aCc d f v l=(mp (xM d (pL f) l (pz v l z)) d.length,mp (pz v l z) l.length,0)∧∀r,r<l.length→aHs (jA l r) v (mp (xM d (pL f) l (pz v l z)) d.length) (pz v l z r):=by
 by_cases h0:(uU (Mf d v l) (qf d (pL f) v l) (off v l l.length) 4096).2=0
 ·right
  obtain⟨z,w,h1,h2,h3⟩:=aMi h0
  have ez:pL (uU (Mf d v l) (qf d (pL f) v l) (off v l l.length) 4096).1.z=tz z (off v l l.length):=by
   rw [h1];funext j
   unfold tz
   by_cases e:j<off v l l.length
   ·rw [if_pos e,zU e]
   ·rw [if_neg e];unfold pL;rw [List.getD_eq_getElem?_getD,List.getElem?_eq_none (by rw [bV];omega)];rfl
  refine⟨tz z (off v l l.length),?_,fun r hr=>?_⟩
  ·unfold aCc;rw [nF h0,bM,ez]
  ·have tt:tz (tz z (off v l l.length)) (off v l l.length)=tz z (off v l l.length):=funext fun j=>by unfold tz;split<;>rfl
   have hs:Sol (Mf d v l) (qf d (pL f) v l) (off v l l.length) (tz z (off v l l.length)) w:=by
    have e:∀j,j<off v l l.length→tz z (off v l l.length) j=z j:=fun j hj=>if_pos hj
    exact⟨fun j hj=>by rw [e j hj];exact h3.z0 j hj,h3.w0,fun i hi=>by rw [h3.eq i hi];congr 1;exact eY fun j hj=>by rw [e j hj],fun j hj=>by rw [e j hj];exact h3.zw j hj⟩
   exact aK4 tt hs hr
 ·left
  unfold aCc;rw [nT h0,bT]
  rcases aJ1 (M:=Mf d v l) (q:=qf d (pL f) v l) (n:=off v l l.length) (most:=4096) with h|h|h
  ·exact absurd h h0
  ·exact Or.inl h
  ·exact Or.inr h
end Go.Proofs.YtcjdedkdoagifaaGreat
set_option linter.unusedVariables false
namespace Go.Proofs.YtcjdedkdoagifaaGreat
theorem aIl (s:Rat):(0<s→s.num.sign=1)∧(s<0→s.num.sign=-1):=by
 refine⟨fun h=>Int.sign_eq_one_of_pos (aGd.2 h),fun h=>Int.sign_eq_neg_one_of_neg ?_⟩
 rw [←Int.not_le,Rat.num_nonneg,Rat.not_le];exact h
theorem aAv {a b:Rat} (ha:0≤a) (hb:0≤b):0≤a*b:=Rat.mul_nonneg ha hb
theorem aHs.slides {r:aA} {v a:List Rat} {p:aF} (h:aHs r v a p) (hm:0≤r.mu):p.f*rt r.t v≤0:=by
 by_cases h0:r.t.length=0
 ·rw [h.none h0];grind
 ·by_cases hs:rt r.t v=0
  ·rw [hs];grind
  ·have e:=h.slip h0 hs
   have hmn:=aAv hm h.n0
   by_cases hp:0<rt r.t v
   ·rw [(aIl _).1 hp] at e
    have:=aAv hmn (Rat.le_of_lt hp)
    rw [e,show(((-1:Int):Rat)/((1:Int):Rat))=-1 by decide+kernel]
    generalize r.mu*p.n=m at *
    generalize rt r.t v=s at *
    grind
   ·have hn:rt r.t v<0:=by grind
    rw [(aIl _).2 hn] at e
    have:=aAv hmn (show 0≤-(rt r.t v) by grind)
    rw [e,show(((-(-1):Int):Rat)/((1:Int):Rat))=1 by decide+kernel]
    generalize r.mu*p.n=m at *
    generalize rt r.t v=s at *
    grind
theorem aHs.along {r:aA} {v a:List Rat} {p:aF} (h:aHs r v a p) (hm:0≤r.mu) (hs:rt r.t v=0):p.n*rt r.j a+p.f*rt r.t a≤0:=by
 have e1:p.n*rt r.j a=0:=by
  rcases h.nj with e|e
  ·rw [e];grind
  ·rw [e];grind
 rw [e1]
 by_cases h0:r.t.length=0
 ·rw [h.none h0];grind
 ·obtain⟨_,_,s3,s4⟩:=h.stick h0 hs
  have hmn:=aAv hm h.n0
  by_cases hp:0<rt r.t a
  ·have:=aAv hmn (Rat.le_of_lt hp)
   rw [s3 hp];grind
  ·by_cases hn:rt r.t a<0
   ·have:=aAv hmn (show 0≤-(rt r.t a) by grind)
    rw [s4 hn];grind
   ·have:rt r.t a=0:=by grind
    rw [this];grind
theorem aQU {d:List aG} {f v:List Rat} {l:List aA} (hf:aB9 d f v l=true) {r:Nat} (hr:r<l.length):0≤(jA l r).mu:=by
 unfold aB9 at hf
 rw [Bool.and_eq_true] at hf
 have h1:=List.all_eq_true.1 hf.2 _ (oA hr)
 unfold yD at h1
 rw [Bool.and_eq_true,Bool.and_eq_true] at h1
 have h2:=of_decide_eq_true h1.1.2
 have h3:0≤(jA l r).mu.num:=by
  rcases Int.lt_or_le (jA l r).mu.num 0 with h|h
  ·rw [Int.sign_eq_neg_one_of_neg h] at h2;omega
  ·exact h
 exact Rat.num_nonneg.1 h3
theorem aIN {s:aL} {a:List Rat} {p:Nat→aF} {e:Int} (hv:vH 64 s.v) (hrb:RsB s.rows) (ha:vH 20000000 a) (hp:PB' 300000 s.rows.length p) (hn:s.rows.length≤1000) (hc:∀r,r<s.rows.length→aHs (jA s.rows r) s.v a (p r)) (hm:∀r,r<s.rows.length→0≤(jA s.rows r).mu) {K:Nat} (hK:13≤K):∀(t i k:Nat),i+t=s.rows.length→t<k→dC K s (a,mp p s.rows.length,e) k (i:Int)=some (.go ())
 |0,i,k,hi,hk=>by
  obtain⟨k',rfl,_⟩:=a9 hk
  simp only [dC,bV,dF (show¬(i:Int)<(s.rows.length:Int) by omega),bM]
 |t+1,i,k,hi,hk=>by
  obtain⟨k',rfl,_⟩:=a9 hk
  have hil:i<s.rows.length:=by omega
  have hb:=hrb _ (oA hil)
  obtain⟨b1,b2⟩:=hp i hil
  have r1:=aE9 hv hb.2 hK
  have r2:=uC ha (by omega) hb.1 hK
  have r3:=uC ha (by omega) hb.2 hK
  have c1:=aGp hv hb.2
  have c2:=xJ ha hb.1
  have c3:=xJ ha hb.2
  have s1:¬0<((p i).f*rt (jA s.rows i).t s.v).num.sign:=fun h=>by
   have:=(hc i hil).slides (hm i hil)
   have:=aMD.1 h
   grind
  have ih:=aIN (e:=e) hv hrb ha hp hn hc hm hK t (i+1) k' (by omega) (by omega)
  simp only [dC,bV,dT (show(i:Int)<(s.rows.length:Int) by omega),bT,aA1 hil,dR (f:=p) hil,oB,r1,r2,r3,oT b2 c1 (by omega) (by omega),oT b1 c2 (by omega) (by omega),oT b2 c3 (by omega) (by omega),t7 (b1.mul c2) (b2.mul c3) (by omega) (by omega),kY (b2.mul c1) (by omega),dF s1,bM,kY c1 (by omega),mF (i:=i) (by omega),ih]
  by_cases hs:rt (jA s.rows i).t s.v=0
  ·have s2:¬0<((p i).n*rt (jA s.rows i).j a+(p i).f*rt (jA s.rows i).t a).num.sign:=fun h=>by
    have:=(hc i hil).along (hm i hil) hs
    have:=aMD.1 h
    grind
   simp only [qT (aBu.2 hs),bT,kY ((b1.mul c2).add (b2.mul c3)) (by omega),oB,dF s2,bM]
  ·simp only [qF (fun h=>hs (aBu.1 h)),bM]
theorem aJ5 {d:List aG} {f v:List Rat} {l:List aA} (h:ScB d f v l) (hm:l.length≤4) (h8:∀j,j<d.length→Bd 8 (pL f j)):vH 20000000 (aCc d f v l).1∧(∀p∈(aCc d f v l).2.1,Bd 300000 p.n∧Bd 300000 p.f):=by
 have hn:=h.n8
 have hrb:RsB l:=fun r hr=>(h.sb.sl r hr).1
 unfold aCc
 by_cases h0:(uU (Mf d v l) (qf d (pL f) v l) (off v l l.length) 4096).2=0
 ·rw [nF h0,bM]
  obtain⟨z1,z2⟩:=aLj (aLR h (show l.length≤5 by omega) h8) (by omega) h0
  have zb:∀j,j<off v l l.length→Bd 100000 (pL (uU (Mf d v l) (qf d (pL f) v l) (off v l l.length) 4096).1.z j):=fun j hj=>z2 _ (vR (by omega))
  have pb:=aEf zb h.sb.sl
  have hA:(2*100000+11+9)*24*l.length≤400000000:=Nat.le_trans (Nat.mul_le_mul_left _ hm) (by decide)
  have ab:=aDO h.sb.sd h.fbd hrb h.ir pb (by omega) (by omega) (by omega) hA
  have aB:aHq 64 (2*100000+11) l.length≤20000000:=by unfold aHq;omega
  refine⟨fun x hx=>(ab x hx).mono aB,fun p hp=>?_⟩
  obtain⟨i,hi,rfl⟩:=List.mem_map.1 hp
  obtain⟨b1,b2⟩:=pb i (List.mem_range.1 hi)
  exact⟨b1.mono (by omega),b2.mono (by omega)⟩
 ·rw [nT h0,bT]
  exact⟨fun x hx=>absurd hx List.not_mem_nil,fun x hx=>absurd hx List.not_mem_nil⟩
theorem aCp {a0:List Int} {a1:Bool} (h0:aGF a0):∃K,jO K a0 a1=some true:=by
 obtain⟨s,hs,hf,hl4,hm⟩:=aK7 h0 a1
 have hsb:=hs.sbd
 have hrl:=hs.rl
 have hll:=hs.ll
 have hn4:=hs.n4
 refine(?_:Ev (fun K=>jO K a0 a1) true).get
 unfold jO
 refine Ev.bind hm ⟨7000,fun K hK=>?_⟩
 have hl:=aM3 (K-40)
 rw [show K-40+40=K by omega] at hl
 have h:=aMo hsb (show s.rows.length≤8 by omega) hf
 have hrb:RsB s.rows:=fun r hr=>(h.sb.sl r hr).1
 have h8:∀j,j<s.dofs.length→Bd 8 (pL s.load j):=fun j hj=>hs.load _ (vR (by omega))
 obtain⟨p1,_⟩:=aJ2 h hf (show s.rows.length≤5 by omega) h8 (show 6000≤K by omega)
 obtain⟨r1,r2⟩:=aJ5 h (show s.rows.length≤4 by omega) h8
 rcases aJF (d:=s.dofs) (f:=s.load) (v:=s.v) (l:=s.rows) with hc|⟨z,hz,hc⟩
 ·generalize hP:aCc s.dofs s.load s.v s.rows=P at *
  rcases hc with hc|hc
  ·simp only [p1,oB,nT (show P.2.2≠0 by omega),bT,qT hc,hl]
  ·simp only [p1,oB,nT (show P.2.2≠0 by omega),bT,qF (show P.2.2≠15 by omega),bM,qT hc,hl]
 ·rw [hz] at p1 r1 r2
  have pb:PB' 300000 s.rows.length (pz s.v s.rows z):=fun i hi=>r2 _ (List.mem_map.2 ⟨i,List.mem_range.2 hi,rfl⟩)
  have l1:=aIN (e:=0) h.sb.sv hrb r1 pb (by omega) hc (fun r hr=>aQU hf hr) (show 13≤K by omega) s.rows.length 0 K (by omega) (by omega)
  simp only [Int.natCast_zero] at l1
  simp only [p1,oB,nF (rfl:(0:Int)=0),bM,bV,nF (rfl:(s.rows.length:Int)=s.rows.length),l1,jU,hl]
end Go.Proofs.YtcjdedkdoagifaaGreat
