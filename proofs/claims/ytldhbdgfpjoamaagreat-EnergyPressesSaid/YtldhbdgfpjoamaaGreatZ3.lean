/- Texts of the proof, part 3: P5 P6 P7 P8 R1 RZ PR L1 FR FJ PC. -/
import Derived.Test.YtldhbdgfpjoamaaGreatRows
import Derived.WalkKit
import Derived.ProofKit
import Derived.OpenShut
import Derived.Test.YtldhbdgfpjoamaaGreatZ2
set_option linter.unusedSimpArgs false
set_option linter.unusedVariables false
namespace Go.Proofs.YtldhbdgfpjoamaaGreat
/-- The guess is too great. -/
theorem aJs {P V X Y w Q g:Int} (hP:0<P) (hV1:X*P≤V) (hw2:w<(Y+1)*P) (hQ1:Q*V≤w) (hg:0≤g) (h:Y+1≤g*X) (hV:0≤V):Q<g:=by
 rcases Int.lt_or_le Q g with h1|h1
 ·exact h1
 ·exfalso
  have a:g*V≤Q*V:=Int.mul_le_mul_of_nonneg_right h1 hV
  have b:(Y+1)*P≤g*X*P:=Int.mul_le_mul_of_nonneg_right h (by omega)
  have c:g*(X*P)≤g*V:=Int.mul_le_mul_of_nonneg_left hV1 hg
  rw [Int.mul_assoc] at b
  omega
theorem aJ8 {P V X Y w Q g:Int} (hP:0<P) (hV2:V<(X+1)*P) (hw1:Y*P≤w) (hQ2:w<(Q+1)*V) (hg:g≤X) (h:g*X≤Y) (hQ:0≤Q) (hV:0≤V):g≤Q+1:=by
 rcases Int.lt_or_le (Q+1) g with h1|h1
 ·exfalso
  have a:(Q+1)*V≤(g-1)*V:=Int.mul_le_mul_of_nonneg_right (by omega) hV
  have b:(g-1)*V≤(g-1)*((X+1)*P):=Int.mul_le_mul_of_nonneg_left (by omega) (by omega)
  have c:g*X*P≤Y*P:=Int.mul_le_mul_of_nonneg_right h (by omega)
  have d:(g-1)*((X+1)*P)=g*X*P+(g-X-1)*P:=by grind
  have e:(g-X-1)*P≤(-1)*P:=Int.mul_le_mul_of_nonneg_right (by omega) (by omega)
  omega
 ·exact h1
theorem vC {a b c:Int} (hc:0<c) (h:a*c<b*c):a<b:=Int.lt_of_mul_lt_mul_right h (by omega)
theorem aHO {b v u:List Int} {N j:Nat} {P V w Q v1 v2 u2 top:Int} (hb:b.length=N+2) (hb2:b.length≤9000000000000) (hvl:v.length=N+2) (huj:j+N<u.length) (hj:j≤9000000000000) (e1:v.getD (N+1) 0=v1) (e2:v.getD N 0=v2) (e3:u.getD (j+N) 0=u2)
  (hP:0<P) (hV:0≤V) (hv1:500000000≤v1) (hv1':v1<1000000000) (hv2:0≤v2) (hv2':v2<1000000000) (hu2:0≤u2) (hu2':u2<1000000000)
  (hV1:(v1*1000000000+v2)*P≤V) (hV2:V<(v1*1000000000+v2+1)*P) (hw1:(top*1000000000+u2)*P≤w) (hw2:w<(top*1000000000+u2+1)*P) (hwV:w<V*1000000000) (hQ:0≤Q) (hQ1:Q*V≤w) (hQ2:w<(Q+1)*V):
  ∀(n:Nat) (g r:Int),0≤r→r<1000000000→1000000000≤r+n*500000000→g*v1+r=top→Q≤g→g≤1000000001→
  ∃g',(Q≤g'∧g'≤Q+1∧g'<1000000000)∧∀K k,n<k→eK K b v u (j:Int) k g r=some g'
 |0,g,r,h0,h1,h2,_,_,_=>by omega
 |n+1,g,r,h0,h1,h2,h3,h4,h5=>by
  have QB:Q<1000000000:=by
   have hVpos:0<V:=by
    rcases Int.lt_or_le 0 V with h|h
    ·exact h
    ·have:V=0:=by omega
     subst this
     omega
   exact vC hVpos (by rw [Int.mul_comm 1000000000 V];omega)
  have htop:top≤v1*1000000000+v2:=by
   have t1:(top*1000000000)*P≤(top*1000000000+u2)*P:=Int.mul_le_mul_of_nonneg_right (by omega) (by omega)
   have t2:(top*1000000000)*P<((v1*1000000000+v2+1)*1000000000)*P:=by
    have:(v1*1000000000+v2+1)*1000000000*P=(v1*1000000000+v2+1)*P*1000000000:=by grind
    rw [this]
    omega
   have t3:=vC hP t2
   omega
  have c0:aT ((b.length:Int)-1)=some ((N+1:Nat):Int):=ckN (m:=0) (by omega) (by omega)
  have c1:=dK (xs:=v) (i:=N+1) (by omega)
  rw [e1] at c1
  have c2:aT ((b.length:Int)-2)=some ((N:Nat):Int):=ckN (m:=0) (by omega) (by omega)
  have c3:=dK (xs:=v) (i:=N) (by omega)
  rw [e2] at c3
  have c4:aT ((j:Int)+(b.length:Int))=some ((j+N+2:Nat):Int):=ckN (m:=0) (by omega) (by omega)
  have c5:aT (((j+N+2:Nat):Int)-2)=some ((j+N:Nat):Int):=ckN (m:=0) (by omega) (by omega)
  have c6:=dK (xs:=u) (i:=j+N) huj
  rw [e3] at c6
  have c7:aT (r+v1)=some (r+v1):=k5 (by omega)
  have c8:aT (g-1)=some (g-1):=k5 (by omega)
  have less:Q<g→∃g',(Q≤g'∧g'≤Q+1∧g'<1000000000)∧∀K k,n<k→(bif decide (1000000000≤r+v1) then some (g-1) else eK K b v u (j:Int) k (g-1) (r+v1))=some g':=by
   intro hlt
   have h3':(g-1)*v1+(r+v1)=top:=by rw [Int.sub_mul];omega
   by_cases hr:1000000000≤r+v1
   ·have hg1:(g-1)*v1<1000000000*v1:=by omega
    have hg2:g-1<1000000000:=vC (by omega) hg1
    have hg3:(g-1)*(v1*1000000000+v2)≤top*1000000000+u2:=by
     have m1:(g-1)*v2≤999999999*999999999:=Int.mul_le_mul (by omega) (by omega) hv2 (by omega)
     have m2:(g-1)*(v1*1000000000+v2)=((g-1)*v1)*1000000000+(g-1)*v2:=by grind
     rw [m2]
     omega
    refine⟨g-1,⟨by omega,aJ8 hP hV2 hw1 hQ2 (by omega) hg3 hQ hV,hg2⟩,fun K k hk=>?_⟩
    rw [dT hr,cA]
   ·obtain⟨g',i1,i2⟩:=aHO hb hb2 hvl huj hj e1 e2 e3 hP hV hv1 hv1' hv2 hv2' hu2 hu2' hV1 hV2 hw1 hw2 hwV hQ hQ1 hQ2 n (g-1) (r+v1) (by omega) (by omega) (by omega) h3' (by omega) (by omega)
    refine⟨g',i1,fun K k hk=>?_⟩
    rw [dF hr,bU]
    exact i2 K k hk
  by_cases hg:1000000000≤g
  ·obtain⟨g',i1,i2⟩:=less (by omega)
   refine⟨g',i1,fun K k hk=>?_⟩
   obtain⟨k',rfl,_⟩:=bD hk
   simp only [eK,dT hg,cA,oB,c0,c1,c7,c8]
   exact i2 K k' (by omega)
  ·have m:=aGL (x:=g) (y:=v2) (by omega) (by omega) hv2 hv2'
   have c9:aT (g*v2)=some (g*v2):=k5 (by omega)
   have c10:aT (r*1000000000)=some (r*1000000000):=k5 (by omega)
   have c11:aT (r*1000000000+u2)=some (r*1000000000+u2):=k5 (by omega)
   have m2:g*(v1*1000000000+v2)=(g*v1)*1000000000+g*v2:=by grind
   by_cases hc:r*1000000000+u2<g*v2
   ·obtain⟨g',i1,i2⟩:=less (aJs hP hV1 hw2 hQ1 (by omega) (by rw [m2];omega) hV)
    refine⟨g',i1,fun K k hk=>?_⟩
    obtain⟨k',rfl,_⟩:=bD hk
    simp only [eK,dF hg,bU,cA,oB,c0,c1,c2,c3,c4,c5,c6,c7,c8,c9,c10,c11,dT hc]
    exact i2 K k' (by omega)
   ·refine⟨g,⟨h4,aJ8 hP hV2 hw1 hQ2 (by omega) (by rw [m2];omega) hQ hV,by omega⟩,fun K k hk=>?_⟩
    obtain⟨k',rfl,_⟩:=bD hk
    simp only [eK,dF hg,bU,oB,c2,c3,c4,c5,c6,c9,c10,c11,dF hc]
structure aQa (u0 v:List Int) (j:Nat) (g:Int) (u:List Int) (c:Int) (i:Nat):Prop where
 len:u.length=u0.length
 ok:lW u
 c0:0≤c
 c1:c<1000000000
 same:∀s,s<j∨j+i≤s→u.getD s 0=u0.getD s 0
 val:W u j i-c*PB i=W u0 j i-g*W v 0 i
theorem aQa.step {u0 v u:List Int} {j i:Nat} {g c x c':Int} (h:aQa u0 v j g u c i) (hl:j+i<u0.length) (hx0:0≤x) (hx1:x<1000000000) (h0:0≤c') (h1:c'<1000000000) (hv:x=u.getD (j+i) 0-g*v.getD i 0-c+c'*1000000000):aQa u0 v j g (u.set (j+i) x) c' (i+1) where
 len:=by simpa using h.len
 ok:=h.ok.set hx0 hx1
 c0:=h0
 c1:=h1
 same:=fun s hs=>by rw [fF (by omega)];exact h.same s (by omega)
 val:=by
  have hlen:=h.len
  have hs:=h.same (j+i) (.inr (Nat.le_refl _))
  have hval:=h.val
  rw [d7,d7,d7,eI (by omega),z8 (.inr (by omega)),Nat.zero_add]
  simp only [PB]
  rw [hs] at hv
  grind
theorem aES {b v u0:List Int} {j:Nat} {g:Int} (hg0:0≤g) (hg1:g<1000000000) (hv:lW v) (hvl:b.length≤v.length) (hl:j+b.length≤u0.length) (hL:u0.length≤9000000000000):∀(t i:Nat) (u:List Int) (c:Int),i+t=b.length→aQa u0 v j g u c i→
  ∃u' c',aQa u0 v j g u' c' b.length∧∀K k,t<k→fG K b v (j:Int) g k u c (i:Int)=some (u',c')
 |0,i,u,c,hi,hP=>by
  have:i=b.length:=by omega
  subst this
  refine⟨u,c,hP,fun K k hk=>?_⟩
  obtain⟨k',rfl,_⟩:=bD hk
  simp [fG]
 |t+1,i,u,c,hi,hP=>by
  have hlen:=hP.len
  have c0:=hP.c0
  have c1:=hP.c1
  have hu:=hP.ok (j+i)
  have hvi:=hv i
  have m:=aGL hg0 hg1 hvi.1 hvi.2
  have e1:decide ((i:Int)<(b.length:Int))=true:=dT (by omega)
  have e2:aT ((i:Int)+(j:Int))=some ((j+i:Nat):Int):=ckN (m:=0) (by omega) (by omega)
  have e3:=dK (xs:=u) (i:=j+i) (by omega)
  have e4:=dK (xs:=v) (i:=i) (by omega)
  have e5:aT (g*v.getD i 0)=some (g*v.getD i 0):=k5 (by omega)
  have e6:aT (u.getD (j+i) 0-g*v.getD i 0)=some (u.getD (j+i) 0-g*v.getD i 0):=k5 (by omega)
  have e8:aT ((i:Int)+1)=some ((i+1:Nat):Int):=ckN (m:=0) (by omega) (by omega)
  have e9:∀x,oO u ((j+i:Nat):Int) x=some (u.set (j+i) x):=fun x=>uA (by omega)
  obtain⟨z,hz⟩:∃z,u.getD (j+i) 0-g*v.getD i 0-c=z:=⟨_,rfl⟩
  have e7:aT (u.getD (j+i) 0-g*v.getD i 0-c)=some z:=by rw [hz];exact k5 (by omega)
  by_cases hneg:z<0
  ·have f1:aT (-z)=some (-z):=k5 (by omega)
   have f2:aT (-z+1000000000)=some (-z+1000000000):=k5 (by omega)
   have f3:aT (-z+1000000000-1)=some (-z+1000000000-1):=k5 (by omega)
   have f4:zX (-z+1000000000-1) 1000000000=some ((-z+1000000000-1)/1000000000):=tF (by omega) (by omega) (by omega)
   have f5:aT ((-z+1000000000-1)/1000000000*1000000000)=some ((-z+1000000000-1)/1000000000*1000000000):=k5 (by omega)
   have f6:aT (z+(-z+1000000000-1)/1000000000*1000000000)=some (z+(-z+1000000000-1)/1000000000*1000000000):=k5 (by omega)
   obtain⟨u',c',h1,h2⟩:=aES hg0 hg1 hv hvl hl hL t (i+1) _ _ (by omega) (hP.step (x:=z+(-z+1000000000-1)/1000000000*1000000000) (c':=(-z+1000000000-1)/1000000000) (by omega) (by omega) (by omega) (by omega) (by omega) (by omega))
   refine⟨u',c',h1,fun K k hk=>?_⟩
   obtain⟨k',rfl,_⟩:=bD hk
   simp only [fG,e1,e2,e3,e4,e5,e6,e7,e8,e9,f1,f2,f3,f4,f5,f6,dT hneg,cA,oB]
   exact h2 K k' (by omega)
  ·obtain⟨u',c',h1,h2⟩:=aES hg0 hg1 hv hvl hl hL t (i+1) _ _ (by omega) (hP.step (x:=z) (c':=0) (by omega) (by omega) (by omega) (by omega) (by omega) (by omega))
   refine⟨u',c',h1,fun K k hk=>?_⟩
   obtain⟨k',rfl,_⟩:=bD hk
   simp only [fG,e1,e2,e3,e4,e5,e6,e7,e8,e9,dF hneg,cA,bU,oB]
   exact h2 K k' (by omega)
structure aJG (u0 v:List Int) (j:Nat) (u:List Int) (c:Int) (i:Nat):Prop where
 len:u.length=u0.length
 ok:∀s,s<j+v.length→0≤u.getD s 0∧u.getD s 0<1000000000
 c0:0≤c
 c1:c≤1
 same:∀s,s<j∨j+i≤s→u.getD s 0=u0.getD s 0
 val:W u j i+c*PB i=W u0 j i+W v 0 i
theorem aJG.step {u0 v u:List Int} {j i:Nat} {c x c':Int} (h:aJG u0 v j u c i) (hl:j+i<u0.length) (hx0:0≤x) (hx1:x<1000000000) (h0:0≤c') (h1:c'≤1) (hv:x+c'*1000000000=u.getD (j+i) 0+v.getD i 0+c):aJG u0 v j (u.set (j+i) x) c' (i+1) where
 len:=by simpa using h.len
 ok:=fun s hs=>by
  rw [aBD];split
  ·exact⟨hx0,hx1⟩
  ·exact h.ok s hs
 c0:=h0
 c1:=h1
 same:=fun s hs=>by rw [fF (by omega)];exact h.same s (by omega)
 val:=by
  have hlen:=h.len
  have hs:=h.same (j+i) (.inr (Nat.le_refl _))
  have hval:=h.val
  rw [d7,d7,d7,eI (by omega),z8 (.inr (by omega)),Nat.zero_add]
  simp only [PB]
  rw [hs] at hv
  grind
theorem aH4 {b v u0:List Int} {j:Nat} (hv:lW v) (hvl:b.length=v.length) (hl:j+b.length≤u0.length) (hL:u0.length≤9000000000000):∀(t i:Nat) (u:List Int) (c:Int),i+t=b.length→aJG u0 v j u c i→
  ∃u' c',aJG u0 v j u' c' b.length∧∀K k,t<k→iW K b v (j:Int) k u c (i:Int)=some (u',c')
 |0,i,u,c,hi,hP=>by
  have:i=b.length:=by omega
  subst this
  refine⟨u,c,hP,fun K k hk=>?_⟩
  obtain⟨k',rfl,_⟩:=bD hk
  simp [iW]
 |t+1,i,u,c,hi,hP=>by
  have hlen:=hP.len
  have c0:=hP.c0
  have c1:=hP.c1
  have hu:=hP.ok (j+i) (by omega)
  have hvi:=hv i
  have e1:decide ((i:Int)<(b.length:Int))=true:=dT (by omega)
  have e2:aT ((i:Int)+(j:Int))=some ((j+i:Nat):Int):=ckN (m:=0) (by omega) (by omega)
  have e3:=dK (xs:=u) (i:=j+i) (by omega)
  have e4:=dK (xs:=v) (i:=i) (by omega)
  have e5:aT (u.getD (j+i) 0+v.getD i 0)=some (u.getD (j+i) 0+v.getD i 0):=k5 (by omega)
  have e6:aT (u.getD (j+i) 0+v.getD i 0+c)=some (u.getD (j+i) 0+v.getD i 0+c):=k5 (by omega)
  have e7:yK (u.getD (j+i) 0+v.getD i 0+c) 1000000000=some ((u.getD (j+i) 0+v.getD i 0+c)%1000000000):=mT (by omega) (by omega)
  have e9:zX (u.getD (j+i) 0+v.getD i 0+c) 1000000000=some ((u.getD (j+i) 0+v.getD i 0+c)/1000000000):=tF (by omega) (by omega) (by omega)
  have e8:aT ((i:Int)+1)=some ((i+1:Nat):Int):=ckN (m:=0) (by omega) (by omega)
  have e10:∀x,oO u ((j+i:Nat):Int) x=some (u.set (j+i) x):=fun x=>uA (by omega)
  obtain⟨u',c',h1,h2⟩:=aH4 hv hvl hl hL t (i+1) _ _ (by omega) (hP.step (x:=(u.getD (j+i) 0+v.getD i 0+c)%1000000000) (c':=(u.getD (j+i) 0+v.getD i 0+c)/1000000000) (by omega) (by omega) (by omega) (by omega) (by omega) (by omega))
  refine⟨u',c',h1,fun K k hk=>?_⟩
  obtain⟨k',rfl,_⟩:=bD hk
  simp only [iW,e1,e2,e3,e4,e5,e6,e7,e8,e9,e10,cA,oB]
  exact h2 K k' (by omega)
structure aHr (m n:Nat) (v:List Int) (S:Int) (q u:List Int) (J:Nat):Prop where
 ql:q.length=m-n+1
 ul:u.length=m+1
 uok:lW u
 qok:∀s,J≤s→0≤q.getD s 0∧q.getD s 0<1000000000
 lt:vD u<vD v*PB J
 val:S=vD v*(PB J*W q J (m-n+1-J))+vD u
theorem aK7 {u:List Int} {k c:Nat} (hu:lW u) (h:W u 0 (k+c)<PB k):W u 0 (k+c)=W u 0 k:=by
 rw [yN] at h ⊢
 have h1:=(aB4 (hu.dr 0 k)).1
 have h2:=(aB4 (hu.dr (0+k) c)).1
 have hp:=sP k
 rcases Int.lt_or_le 0 (W u (0+k) c) with h3|h3
 ·have:PB k*1≤PB k*W u (0+k) c:=Int.mul_le_mul_of_nonneg_left h3 (by omega)
  omega
 ·have:W u (0+k) c=0:=by omega
  rw [this];simp
theorem aHr.next {m n j:Nat} {v q u u4:List Int} {S Q w:Int} (h:aHr m n v S q u (j+1)) (hj:j+1≤m-n+1) (hnm:n≤m) (hv:lW v) (hvl:v.length=n) (hw:W u j (n+1)=w) (hQ:0≤Q) (hQB:Q<1000000000) (hQ1:Q*vD v≤w) (hQ2:w<(Q+1)*vD v)
  (h1:u4.length=m+1) (h2:lW u4) (h3:∀s,s<j∨j+n<s→u4.getD s 0=u.getD s 0) (h4:W u4 j (n+1)=w-Q*vD v):aHr m n v S (q.set j Q) u4 j:=by
 have hV:=hv.lt
 rw [hvl] at hV
 have hR:W u 0 (m+1)=W u 0 j+PB j*w:=by
  have hlt:=h.lt
  unfold vD at hlt hV
  rw [h.ul] at hlt
  have hb:W v 0 v.length*PB (j+1)≤PB n*PB (j+1):=Int.mul_le_mul_of_nonneg_right (by omega) (by have:=sP (j+1);omega)
  rw [←aCy,show n+(j+1)=j+(n+1) by omega] at hb
  obtain⟨c,hc⟩:∃c,m+1=(j+(n+1))+c:=⟨m-j-n,by omega⟩
  rw [hc] at hlt ⊢
  rw [aK7 h.uok (by omega),yN,Nat.zero_add,hw]
 have hR4:W u4 0 (m+1)=W u 0 j+PB j*(w-Q*vD v):=by
  obtain⟨c,hc⟩:∃c,m+1=(j+(n+1))+c:=⟨m-j-n,by omega⟩
  have hz:W u4 (j+(n+1)) c=W u (j+(n+1)) c:=aEE fun s _=>h3 _ (.inr (by omega))
  have hz0:PB (j+(n+1))*W u (j+(n+1)) c=0:=by
   have e:=hR
   rw [hc,yN,yN u 0 j,Nat.zero_add,Nat.zero_add,hw] at e
   omega
  have hl:W u4 0 j=W u 0 j:=aEE fun s hs=>by rw [Nat.zero_add];exact h3 s (.inl hs)
  rw [hc,yN,yN u4 0 j,Nat.zero_add,Nat.zero_add,hz,hz0,hl,h4]
  omega
 have hlo:=(aB4 (h.uok.dr 0 j)).2
 have hlo0:=(aB4 (h.uok.dr 0 j)).1
 refine⟨by simpa using h.ql,h1,h2,fun s hs=>?_,?_,?_⟩
 ·rw [aBD]
  by_cases e:s=j
  ·rw [if_pos ⟨e,by have:=h.ql;omega⟩];exact⟨hQ,hQB⟩
  ·rw [if_neg (fun x=>e x.1)];exact h.qok s (by omega)
 ·show W u4 0 u4.length<_
  rw [h1,hR4]
  have:PB j*(w-Q*vD v)≤PB j*(vD v-1):=Int.mul_le_mul_of_nonneg_left (by rw [Int.add_mul] at hQ2;omega) (by omega)
  have e:PB j*(vD v-1)=vD v*PB j-PB j:=by grind
  omega
 ·have hval:=h.val
  have e1:vD u=W u 0 (m+1):=by unfold vD;rw [h.ul]
  have e2:vD u4=W u4 0 (m+1):=by unfold vD;rw [h1]
  rw [e1,hR] at hval
  have hql:=h.ql
  rw [e2,hR4,show m-n+1-j=(m-n+1-(j+1))+1 by omega,aDM,eI (by omega),z8 (.inl (by omega))]
  simp only [PB] at hval
  rw [hval]
  grind
theorem aFZ {b v:List Int} {N m:Nat} {S:Int} (hb:b.length=N+2) (hL:m≤900000000000) (hnm:N+2≤m) (hv:lW v) (hvl:v.length=N+2) (hv1:500000000≤v.getD (N+1) 0):∀(J:Nat) (q u:List Int),J≤m-(N+2)+1→aHr m (N+2) v S q u J→
  ∃q' u',aHr m (N+2) v S q' u' 0∧wQ (fun K k=>eV K b v k q u ((J:Int)-1)) (q',u')
 |0,q,u,_,h=>⟨q,u,h,wQ.of 1 fun K k hk=>by
   obtain⟨k',rfl,_⟩:=bD (n:=0) hk
   simp [eV]⟩
 |j+1,q,u,hJ,h=>by
  have hul:=h.ul
  have hql:=h.ql
  obtain⟨v1,e1⟩:∃x,v.getD (N+1) 0=x:=⟨_,rfl⟩
  obtain⟨v2,e2⟩:∃x,v.getD N 0=x:=⟨_,rfl⟩
  obtain⟨u2,e3⟩:∃x,u.getD (j+N) 0=x:=⟨_,rfl⟩
  obtain⟨u1,e4⟩:∃x,u.getD (j+N+1) 0=x:=⟨_,rfl⟩
  obtain⟨u0,e5⟩:∃x,u.getD (j+N+2) 0=x:=⟨_,rfl⟩
  have d1:=hv (N+1);have d2:=hv N;have d3:=h.uok (j+N);have d4:=h.uok (j+N+1);have d5:=h.uok (j+N+2)
  rw [e1] at d1 hv1;rw [e2] at d2;rw [e3] at d3;rw [e4] at d4;rw [e5] at d5
  have hP:=sP N
  have hVd:vD v=W v 0 N+(v1*1000000000+v2)*PB N:=by
   unfold vD
   rw [hvl,yN,Nat.zero_add,W2,e1,e2,Int.mul_comm (PB N)];grind
  have hwl:=aB4 (h.uok.dr j N)
  have hvl2:=aB4 (hv.dr 0 N)
  obtain⟨w,hw⟩:∃x,W u j (N+2+1)=x:=⟨_,rfl⟩
  have hwd:w=W u j N+((u0*1000000000+u1)*1000000000+u2)*PB N:=by
   rw [←hw,show N+2+1=N+3 by omega,yN,aDM,aDM,W1,e3,e4,show j+N+1+1=j+N+2 by omega,e5];grind
  have hVn:=hv.nonneg
  have hVpos:0<vD v:=by
   have:1*PB N≤(v1*1000000000+v2)*PB N:=Int.mul_le_mul_of_nonneg_right (by omega) (by omega)
   omega
  obtain⟨V,hV⟩:∃x,vD v=x:=⟨_,rfl⟩
  have hVlt:=hv.lt
  rw [hvl] at hVlt
  rw [hV] at hVd hVpos hVn hVlt
  have hwV:w<V*1000000000:=by
   have hlt:=h.lt
   rw [hV] at hlt
   have hb':V*PB (j+1)≤PB (N+2)*PB (j+1):=Int.mul_le_mul_of_nonneg_right (by omega) (by have:=sP (j+1);omega)
   rw [←aCy,show N+2+(j+1)=j+(N+2+1) by omega] at hb'
   obtain⟨c,hc⟩:∃c,m+1=(j+(N+2+1))+c:=⟨m-j-(N+2),by omega⟩
   unfold vD at hlt
   rw [hul,hc] at hlt
   rw [aK7 h.uok (by omega),yN,Nat.zero_add,hw] at hlt
   have h0:=(aB4 (h.uok.dr 0 j)).1
   simp only [PB] at hlt
   have:w*PB j<V*1000000000*PB j:=by
    rw [Int.mul_assoc,Int.mul_comm 1000000000,Int.mul_comm w];omega
   exact vC (sP j) this
  have hw0:0≤w:=by rw [←hw];exact(aB4 (h.uok.dr j _)).1
  obtain⟨Q,hQ⟩:∃x,w/V=x:=⟨_,rfl⟩
  have hQ0:0≤Q:=by rw [←hQ];exact Int.ediv_nonneg hw0 (by omega)
  have hdm:=Int.mul_ediv_add_emod w V
  have hm0:=Int.emod_nonneg w (show V≠0 by omega)
  have hm1:=Int.emod_lt_of_pos w hVpos
  rw [hQ] at hdm
  have hQ1:Q*V≤w:=by rw [Int.mul_comm];omega
  have hQ2:w<(Q+1)*V:=by rw [Int.add_mul,Int.mul_comm];omega
  have hQB:Q<1000000000:=vC hVpos (by rw [Int.mul_comm 1000000000 V];omega)
  obtain⟨top,htop⟩:∃x,u0*1000000000+u1=x:=⟨_,rfl⟩
  have hV1:(v1*1000000000+v2)*PB N≤V:=by omega
  have hV2:V<(v1*1000000000+v2+1)*PB N:=by rw [Int.add_mul,Int.one_mul];omega
  have hw1:(top*1000000000+u2)*PB N≤w:=by rw [←htop];omega
  have hw2:w<(top*1000000000+u2+1)*PB N:=by rw [←htop,Int.add_mul _ 1,Int.one_mul];omega
  have htlim:top≤v1*1000000000+v2:=by
   have t1:(top*1000000000)*PB N≤(top*1000000000+u2)*PB N:=Int.mul_le_mul_of_nonneg_right (by omega) (by omega)
   have t2:(top*1000000000)*PB N<((v1*1000000000+v2+1)*1000000000)*PB N:=by
    have:(v1*1000000000+v2+1)*1000000000*PB N=(v1*1000000000+v2+1)*PB N*1000000000:=by grind
    rw [this]
    omega
   have t3:=vC hP t2
   omega
  obtain⟨g0,hg0⟩:∃x,top/v1=x:=⟨_,rfl⟩
  obtain⟨r0,hr0⟩:∃x,top%v1=x:=⟨_,rfl⟩
  have hdm2:=Int.mul_ediv_add_emod top v1
  have hr1:=Int.emod_nonneg top (show v1≠0 by omega)
  have hr2:=Int.emod_lt_of_pos top (show 0<v1 by omega)
  rw [hg0,hr0] at hdm2
  rw [hr0] at hr1 hr2
  have hg00:0≤g0:=by rw [←hg0];exact Int.ediv_nonneg (by omega) (by omega)
  have hgq:Q<g0+1:=by
   refine aJs hP hV1 hw2 hQ1 (by omega) ?_ (by omega)
   have m1:(g0+1)*(v1*1000000000+v2)=(v1*g0+v1)*1000000000+(g0+1)*v2:=by grind
   have m2:0≤(g0+1)*v2:=Int.mul_nonneg (by omega) d2.1
   rw [m1]
   omega
  have hgm:g0≤1000000001:=by
   have:g0*v1<1000000002*v1:=by rw [Int.mul_comm g0];omega
   have:=vC (show 0<v1 by omega) this
   omega
  obtain⟨g,⟨hg1,hg2,hg3⟩,hgF⟩:=aHO (b:=b) (v:=v) (u:=u) (j:=j) hb (by omega) hvl (by omega) (by omega) e1 e2 e3 hP (Int.le_of_lt hVpos) hv1 d1.2 d2.1 d2.2 d3.1 d3.2 hV1 hV2 hw1 hw2 hwV hQ0 hQ1 hQ2 2 g0 r0 hr1 (by omega) (by omega) (by rw [Int.mul_comm];omega) (by omega) hgm
  obtain⟨u',c',hS,hSF⟩:=aES (b:=b) (v:=v) (u0:=u) (j:=j) (g:=g) (by omega) hg3 hv (by omega) (by omega) (by omega) b.length 0 u 0 (by omega) ⟨rfl,h.uok,by omega,by omega,fun _ _=>rfl,by simp [W]⟩
  have hSl:=hS.len
  have hSc0:=hS.c0
  have hSc1:=hS.c1
  have hSv:=hS.val
  rw [hb] at hSv
  have hSs:u'.getD (j+N+2) 0=u0:=by rw [hS.same _ (.inr (by omega)),e5]
  obtain⟨t,ht⟩:∃x,u0-c'=x:=⟨_,rfl⟩
  have hVW:W v 0 (N+2)=V:=by rw [←hV];unfold vD;rw [hvl]
  rw [hVW] at hSv
  have hWn:w=W u j (N+2)+u0*PB (N+2):=by rw [←hw,d7,←Nat.add_assoc,e5]
  have hWu':=aB4 (hS.ok.dr j (N+2))
  have hPn:=sP (N+2)
  have hD:W u' j (N+2)+t*PB (N+2)=w-g*V:=by rw [←ht,Int.sub_mul];omega
  have i1:decide (0≤(j:Int))=true:=dT (by omega)
  have i0:((j+1:Nat):Int)-1=(j:Int):=by omega
  have i2:aT ((j:Int)+(b.length:Int))=some ((j+N+2:Nat):Int):=ckN (m:=0) (by omega) (by omega)
  have i3:=dK (xs:=u) (i:=j+N+2) (by omega)
  rw [e5] at i3
  have i4:aT (u0*1000000000)=some (u0*1000000000):=k5 (by omega)
  have i5:aT (((j+N+2:Nat):Int)-1)=some ((j+N+1:Nat):Int):=ckN (m:=0) (by omega) (by omega)
  have i6:=dK (xs:=u) (i:=j+N+1) (by omega)
  rw [e4] at i6
  have i7:aT (u0*1000000000+u1)=some top:=by rw [htop];exact k5 (by omega)
  have i8:aT ((b.length:Int)-1)=some ((N+1:Nat):Int):=ckN (m:=0) (by omega) (by omega)
  have i9:=dK (xs:=v) (i:=N+1) (by omega)
  rw [e1] at i9
  have i10:zX top v1=some g0:=by rw [←hg0];exact tF (by omega) (by omega) (by omega)
  have i11:yK top v1=some r0:=by rw [←hr0];exact mT (by omega) (by omega)
  have i12:=dK (xs:=u') (i:=j+N+2) (by omega)
  rw [hSs] at i12
  have i13:aT (u0-c')=some t:=by rw [ht];exact k5 (by omega)
  have i14:oO u' ((j+N+2:Nat):Int) t=some (u'.set (j+N+2) t):=uA (by omega)
  have i15:bL (u'.set (j+N+2) t) ((j+N+2:Nat):Int)=some t:=by rw [dK (by simp;omega),eI (by omega)]
  have i16:aT ((j:Int)-1)=some ((j:Int)-1):=k5 (by omega)
  have i17:=dK (xs:=q) (i:=j) (by omega)
  have i18:∀x,oO q (j:Int) x=some (q.set j x):=fun x=>uA (by omega)
  have hgF':Ev (fun K=>eK K b v u (j:Int) K g0 r0) g:=⟨3,fun K hK=>hgF K K (by omega)⟩
  have hSF':Ev (fun K=>fG K b v (j:Int) g K u 0 0) (u',c'):=⟨b.length+1,fun K hK=>hSF K K (by omega)⟩
  by_cases hneg:t<0
  ·
   have hgQ:g=Q+1:=by
    have:t*PB (N+2)≤(-1)*PB (N+2):=Int.mul_le_mul_of_nonneg_right (by omega) (by omega)
    rcases Int.lt_or_le Q g with h1|h1
    ·omega
    ·have:g=Q:=by omega
     subst this
     omega
   obtain⟨u3,c3,hB,hBF⟩:=aH4 (b:=b) (v:=v) (u0:=u'.set (j+N+2) t) (j:=j) hv (by omega) (by simp;omega) (by simp;omega) b.length 0 (u'.set (j+N+2) t) 0 (by omega)
    ⟨rfl,fun s hs=>by rw [fF (by omega)];exact hS.ok s,by omega,by omega,fun _ _=>rfl,by simp [W]⟩
   have hBl:=hB.len
   simp only [List.length_set] at hBl
   have hBs:u3.getD (j+N+2) 0=t:=by rw [hB.same _ (.inr (by omega)),eI (by omega)]
   have hBv:=hB.val
   rw [hb,z8 (.inr (by omega)),hVW] at hBv
   have hWu3:=aB4 (u:=u3) (j:=j) (n:=N+2) fun s hs=>hB.ok _ (by omega)
   have hx:t+c3=0:=by
    have hfin:W u3 j (N+2)+(t+c3)*PB (N+2)=w-Q*V:=by
     rw [hgQ,Int.add_mul,Int.one_mul] at hD
     rw [Int.add_mul];omega
    have hlim:w-Q*V<V:=by rw [Int.add_mul] at hQ2;omega
    rcases Int.lt_trichotomy (t+c3) 0 with hx|hx|hx
    ·have:(t+c3)*PB (N+2)≤(-1)*PB (N+2):=Int.mul_le_mul_of_nonneg_right (by omega) (by omega)
     omega
    ·exact hx
    ·have:1*PB (N+2)≤(t+c3)*PB (N+2):=Int.mul_le_mul_of_nonneg_right (by omega) (by omega)
     omega
   obtain⟨q',u'',h5,h6⟩:=aFZ hb hL hnm hv hvl (by rw [e1];exact hv1) j (q.set j Q) (u3.set (j+N+2) (t+c3)) (by omega)
    (h.next hJ hnm hv hvl hw hQ0 hQB (by rw [hV];exact hQ1) (by rw [hV];exact hQ2) (by simp;omega) (fun s=>by
      rw [aBD]
      by_cases e:s=j+N+2
      ·rw [if_pos ⟨e,by omega⟩,hx];omega
      ·rw [if_neg (fun x=>e x.1)]
       rcases Nat.lt_or_ge s (j+N+2) with h1|h1
       ·exact hB.ok s (by omega)
       ·rw [hB.same s (.inr (by omega)),fF (by omega),hS.same s (.inr (by omega))];exact h.uok s) (fun s hs=>by
      rw [fF (by omega)]
      rw [hB.same s (by omega),fF (by omega),hS.same s (by omega)]) (by
      rw [d7,←Nat.add_assoc,eI (by omega),z8 (.inr (by omega)),hV]
      rw [hgQ,Int.add_mul,Int.one_mul] at hD
      rw [Int.add_mul];omega))
   refine⟨q',u'',h5,wQ.step ?_⟩
   have k1:aT (g-1)=some Q:=by rw [show g-1=Q by omega];exact k5 (by omega)
   have k2:=dK (xs:=u3) (i:=j+N+2) (by omega)
   rw [hBs] at k2
   have hc30:=hB.c0
   have hc31:=hB.c1
   have k3:aT (t+c3)=some (t+c3):=k5 (by omega)
   have k4:oO u3 ((j+N+2:Nat):Int) (t+c3)=some (u3.set (j+N+2) (t+c3)):=uA (by omega)
   have hBF':Ev (fun K=>iW K b v (j:Int) K (u'.set (j+N+2) t) 0 0) (u3,c3):=⟨b.length+1,fun K hK=>hBF K K (by omega)⟩
   rw [i0]
   simp only [eV,i1,i2,i3,i4,i5,i6,i7,i8,i9,i10,i11,cA,oB]
   refine wQ.bind hgF' ?_
   simp only [pG]
   refine wQ.bind hSF' ?_
   simp only [pK,i2,i12,i13,i14,i15,dT hneg,cA,oB,k1]
   refine wQ.bind hBF' ?_
   simp only [sG,i2,k2,k3,k4,i17,i18,i16,oB]
   exact h6
  ·have hgQ:g=Q:=by
    have:0≤t*PB (N+2):=Int.mul_nonneg (by omega) (by omega)
    rcases Int.lt_or_le Q g with h1|h1
    ·have:g=Q+1:=by omega
     subst this
     omega
    ·omega
   subst hgQ
   have hx:t=0:=by
    have hlim:w-g*V<V:=by rw [Int.add_mul] at hQ2;omega
    rcases Int.lt_or_le 0 t with hx|hx
    ·have:1*PB (N+2)≤t*PB (N+2):=Int.mul_le_mul_of_nonneg_right (by omega) (by omega)
     omega
    ·omega
   obtain⟨q',u'',h5,h6⟩:=aFZ hb hL hnm hv hvl (by rw [e1];exact hv1) j (q.set j g) (u'.set (j+N+2) t) (by omega)
    (h.next hJ hnm hv hvl hw hQ0 hQB (by rw [hV];exact hQ1) (by rw [hV];exact hQ2) (by simp;omega) (hS.ok.set (by omega) (by omega)) (fun s hs=>by
      rw [fF (by omega)]
      rw [hS.same s (by omega)]) (by
      rw [d7,←Nat.add_assoc,eI (by omega),z8 (.inr (by omega)),hV]
      omega))
   refine⟨q',u'',h5,wQ.step ?_⟩
   rw [i0]
   simp only [eV,i1,i2,i3,i4,i5,i6,i7,i8,i9,i10,i11,cA,oB]
   refine wQ.bind hgF' ?_
   simp only [pG]
   refine wQ.bind hSF' ?_
   simp only [pK,i2,i12,i13,i14,i15,dF hneg,bU,oB,i17,i18,i16]
   exact h6
end Go.Proofs.YtldhbdgfpjoamaaGreat
set_option linter.unusedVariables false
namespace Go.Proofs.YtldhbdgfpjoamaaGreat
theorem aNb {b s:Int} (h0:1≤b) (h1:b<1000000000) (hs:s=1000000000/(b+1)):1≤s∧s≤500000000∧500000000≤s*b∧s*(b+1)≤1000000000:=by
 have d:=Int.mul_ediv_add_emod 1000000000 (b+1)
 have m0:=Int.emod_nonneg 1000000000 (show b+1≠0 by omega)
 have m1:=Int.emod_lt_of_pos 1000000000 (show 0<b+1 by omega)
 rw [←hs] at d
 have hs1:1≤s:=by
  rcases Int.lt_or_le 0 s with h|h
  ·exact h
  ·have:(b+1)*s≤0:=Int.mul_nonpos_of_nonneg_of_nonpos (by omega) (by omega)
   omega
 have hs2:2*s≤(b+1)*s:=Int.mul_le_mul_of_nonneg_right (by omega) (by omega)
 have e1:(b+1)*s=s*b+s:=by grind
 have e2:s*(b+1)=s*b+s:=by grind
 have e3:0≤(s-1)*(b-1):=Int.mul_nonneg (by omega) (by omega)
 have e4:(s-1)*(b-1)=s*b-s-b+1:=by grind
 refine⟨hs1,by omega,by omega,by omega⟩
theorem aHn {u:List Int} {n i:Nat} (h:i<n):(u.take n).getD i 0=u.getD i 0:=by
 simp only [List.getD_eq_getElem?_getD,List.getElem?_take];rw [if_pos h]
theorem lW.take {u:List Int} (h:lW u) (n:Nat):lW (u.take n):=fun i=>by
 rcases Nat.lt_or_ge i n with h1|h1
 ·rw [aHn h1];exact h i
 ·rw [wE (by simp;omega)];omega
theorem aLQ {u:List Int} {n:Nat} (h:lW u) (hn:n≤u.length) (hv:vD u<PB n):vD (u.take n)=vD u:=by
 obtain⟨c,hc⟩:=Nat.exists_eq_add_of_le hn
 have e:(u.take n).length=n:=by simp;omega
 unfold vD at *
 rw [e]
 rw [hc] at hv ⊢
 rw [aK7 h hv]
 exact aEE fun i hi=>by rw [Nat.zero_add];exact aHn hi
theorem aPm {a b:List Int} (ha:lW a) (hb:lW b) (tb:Top b) (hb2:2≤b.length) (hab:b.length≤a.length) (hL:a.length≤60000000000):
  ∃q r,q.length≤a.length∧r.length≤a.length∧lW q∧lW r∧vD q=vD a/vD b∧vD r=vD a%vD b∧Ev (fun K=>uT K a b) (q,r):=by
 obtain⟨N,hN⟩:∃N,b.length=N+2:=⟨b.length-2,by omega⟩
 have hbn:b≠[]:=by intro e;subst e;simp at hN
 obtain⟨b1,hb1⟩:∃x,b.getD (N+1) 0=x:=⟨_,rfl⟩
 have hb1d:=hb (N+1)
 rw [hb1] at hb1d
 have hb10:b1≠0:=by
  rcases tb with h|h
  ·exact absurd h hbn
  ·rw [hN,show N+2-1=N+1 by omega,hb1] at h;exact h
 obtain⟨s,hs⟩:∃x,1000000000/(b1+1)=x:=⟨_,rfl⟩
 obtain⟨hs1,hs2,hs3,hs4⟩:=aNb (b:=b1) (by omega) hb1d.2 hs.symm
 obtain⟨u,hul,huo,huv,huF⟩:=aF9 (a:=a) (f:=s) ha (by omega) (by omega) hL
 obtain⟨vb,hvl,hvo,hvv,hvF⟩:=aF9 (a:=b) (f:=s) hb (by omega) (by omega) (by omega)
 have hPN:=sP (N+1)
 have hbv:vD b=W b 0 (N+1)+b1*PB (N+1):=by unfold vD;rw [hN,d7,Nat.zero_add,hb1]
 have hbw:=aB4 (hb.dr 0 (N+1))
 have hVlt:vD vb<PB (N+2):=by
  rw [hvv]
  have h1:vD b<(b1+1)*PB (N+1):=by rw [Int.add_mul,Int.one_mul];omega
  have h2:s*vD b<s*((b1+1)*PB (N+1)):=Int.mul_lt_mul_of_pos_left h1 (by omega)
  have h3:s*(b1+1)*PB (N+1)≤1000000000*PB (N+1):=Int.mul_le_mul_of_nonneg_right hs4 (by omega)
  rw [Int.mul_assoc] at h3
  show _<PB (N+1)*1000000000
  omega
 have hv1:=hvo.take (N+2)
 have hvd:=aLQ (n:=N+2) hvo (by omega) hVlt
 have hvtl:(vb.take (N+2)).length=N+2:=by simp;omega
 obtain⟨v,hv⟩:∃x,vb.take (N+2)=x:=⟨_,rfl⟩
 rw [hv] at hv1 hvd hvtl
 have hVs:vD v=s*vD b:=by rw [hvd,hvv]
 have hV1:500000000≤v.getD (N+1) 0:=by
  have e:vD v=W v 0 (N+1)+v.getD (N+1) 0*PB (N+1):=by unfold vD;rw [hvtl,d7,Nat.zero_add]
  have h1:=(aB4 (hv1.dr 0 (N+1))).2
  have h2:s*(b1*PB (N+1))≤s*vD b:=Int.mul_le_mul_of_nonneg_left (by omega) (by omega)
  rw [←Int.mul_assoc] at h2
  have h3:s*b1*PB (N+1)<(v.getD (N+1) 0+1)*PB (N+1):=by rw [Int.add_mul _ 1,Int.one_mul];omega
  have:=vC hPN h3
  omega
 have hbpos:=tb.pos hb hbn
 rw [hN,show N+2-1=N+1 by omega] at hbpos
 have start:aHr a.length (N+2) v (s*vD a) (List.replicate (a.length-(N+2)+1) 0) u (a.length-(N+2)+1):=by
  refine⟨by simp,hul,huo,fun t _=>?_,?_,?_⟩
  ·simp only [List.getD_eq_getElem?_getD,List.getElem?_replicate];split<;>simp
  ·rw [huv,hVs]
   have h1:=ha.lt
   have e:a.length=(N+1)+(a.length-(N+2)+1):=by omega
   rw [e,aCy] at h1
   have hp:=sP (a.length-(N+2)+1)
   have h2:PB (N+1)*PB (a.length-(N+2)+1)≤vD b*PB (a.length-(N+2)+1):=Int.mul_le_mul_of_nonneg_right hbpos (by omega)
   have h3:s*vD a<s*(vD b*PB (a.length-(N+2)+1)):=Int.mul_lt_mul_of_pos_left (by omega) (by omega)
   rw [←Int.mul_assoc] at h3
   exact h3
  ·rw [huv,Nat.sub_self,aSD];simp
 obtain⟨q,u',hP,hF⟩:=aFZ (b:=b) (m:=a.length) hN (by omega) (by omega) hv1 hvtl hV1 _ _ _ (Nat.le_refl _) start
 have hql:=hP.ql
 have hu'l:=hP.ul
 have hqo:lW q:=fun i=>hP.qok i (Nat.zero_le _)
 have hlt:=hP.lt
 have hval:=hP.val
 rw [hVs] at hlt hval
 simp only [PB,Int.mul_one,Int.one_mul,Nat.sub_zero] at hlt hval
 have hqv:vD q=W q 0 (a.length-(N+2)+1):=by unfold vD;rw [hql]
 rw [←hqv] at hval
 have hu'n:=hP.uok.nonneg
 have hu'lt:vD u'<PB (N+2):=by rw [←hVs,hvd] at hlt;omega
 have hto:=hP.uok.take (N+2)
 have htv:=aLQ (n:=N+2) hP.uok (by omega) hu'lt
 have htl:(u'.take (N+2)).length=N+2:=by simp;omega
 obtain⟨r,r0,hrl,hro,hrv,hr0,hrF⟩:=aH0 (a:=u'.take (N+2)) (b:=s) hto (by omega) (by omega) (by omega)
 have hrho:vD u'=s*(vD a-vD b*vD q):=by
  rw [Int.mul_sub,←Int.mul_assoc];omega
 have hr:vD r=vD a-vD b*vD q:=by
  rw [hrv,htv,hrho,Int.mul_ediv_cancel_left _ (by omega)]
 have hrn:0≤vD r:=hro.nonneg
 have hrb:vD r<vD b:=by
  rw [hrho,←hr] at hlt
  rw [Int.mul_comm,Int.mul_comm s] at hlt
  exact vC (by omega) hlt
 have hbp:0<vD b:=by omega
 refine⟨q,r,by omega,by omega,hqo,hro,?_,?_,?_⟩
 ·have e:vD a=vD r+vD b*vD q:=by omega
  rw [e,Int.add_mul_ediv_left _ _ (by omega),Int.ediv_eq_zero_of_lt hrn hrb,Int.zero_add]
 ·have e:vD a=vD r+vD b*vD q:=by omega
  rw [e,Int.add_mul_emod_self_left,Int.emod_eq_of_lt hrn hrb]
 ·have e1:aT ((b.length:Int)-1)=some ((N+1:Nat):Int):=ckN (m:=0) (by omega) (by omega)
  have e2:=dK (xs:=b) (i:=N+1) (by omega)
  rw [hb1] at e2
  have e3:aT (b1+1)=some (b1+1):=k5 (by omega)
  have e4:zX 1000000000 (b1+1)=some s:=by rw [←hs];exact tF (by omega) (by omega) (by omega)
  have e5:slL vb 0 (b.length:Int)=some v:=by rw [hN,←hv];exact aIe (by omega)
  have e6:aT ((a.length:Int)-(b.length:Int))=some ((a.length-(N+2):Nat):Int):=ckN (m:=0) (by omega) (by omega)
  have e7:aT (((a.length-(N+2):Nat):Int)+1)=some ((a.length-(N+2)+1:Nat):Int):=ckN (m:=0) (by omega) (by omega)
  have e8:yJ ((a.length-(N+2)+1:Nat):Int) (0:Int)=some (List.replicate (a.length-(N+2)+1) 0):=aBV (by omega)
  have e9:((a.length-(N+2):Nat):Int)=((a.length-(N+2)+1:Nat):Int)-1:=by omega
  have e10:slL u' 0 (b.length:Int)=some (u'.take (N+2)):=by rw [hN];exact aIe (by omega)
  simp only [uT,e1,e2,e3,e4,oB]
  refine Ev.bind huF (Ev.bind hvF ?_)
  simp only [e5,e6,e7,e8,oB]
  rw [e9]
  refine Ev.bind hF.ev ?_
  simp only [tK,e10,oB]
  exact Ev.bind hrF (Ev.pure _)
theorem aQT {n:Nat} (h:n≤18446744073709551615):IntKind.u64.wrap (n:Int)=(n:Int):=IntWalk.u64_in _ ⟨by omega,by omega⟩
theorem aKW (m n:Nat):dl (m/n)≤dl m:=rL (Nat.div_le_self m n)
theorem aID (m n:Nat):dl (m%n)≤dl m:=rL (Nat.mod_le m n)
theorem aAo {n:Nat} (h:(cO n).length≤2):n<1000000000000000000:=by
 have:=aGI n
 have h2:=aD5 (a:=dl n) (b:=2) h
 have:PB 2=1000000000000000000:=by decide
 omega
theorem aGo {m n:Nat} (hn:0<n) (hL:dl m≤60000000000):Ev (fun K=>nP K (cO m) (cO n)) (Z (m/n:Nat),Z (m%n:Nat)):=by
 have dm:=cM m;have dn:=cM n
 have vm:=dW m;have vn:=dW n
 have tm:=oN m;have tn:=oN n
 have lm:(cO m).length=dl m:=rfl
 have ln:(cO n).length=dl n:=rfl
 have key:Ev (fun K=>mM K (cO m) (cO n)) (Z (m/n:Nat),Z (m%n:Nat)):=by
  unfold mM
  refine Ev.bind (aAY dm dn tm tn (by omega)) ?_
  rw [vm,vn]
  unfold w6
  by_cases hlt:m<n
  ·rw [if_pos (by omega)]
   have h1:=z5 false dm (by omega)
   rw [vm,Int.toNat_natCast,oA] at h1
   refine Ev.congr (g:=fun K=>(eN K false (cO m)).bind fun v8=>some ((⟨false,([]:List Int)⟩:aH),v8)) ?_ (fun K=>rfl)
   refine Ev.bind h1 ?_
   rw [Nat.div_eq_of_lt hlt,Nat.mod_eq_of_lt hlt]
   have:Z ((0:Nat):Int)=⟨false,[]⟩:=by rw [←oA];rfl
   rw [this]
   exact Ev.pure _
  ·have hc:decide ((if(m:Int)<n then(-1:Int) else if(n:Int)<m then 1 else 0)<0)=false:=by
    rw [if_neg (by omega)]
    split<;>rfl
   simp only [hc,bU]
   have hle:dl n≤dl m:=rL (by omega)
   have hn0:dl n≠0:=by rw [Ne,xX];omega
   by_cases h1:dl n=1
   ·have e1:(((cO n).length:Int)==1)=true:=qT (by omega)
    obtain⟨a1,a2⟩:=aCL h1
    have e2:=dK (xs:=cO n) (i:=0) (by omega)
    simp only [Int.natCast_zero] at e2
    rw [a1] at e2
    obtain⟨q,r,g1,g2,g3,g4,g5⟩:=aH0 (a:=cO m) (b:=(n:Int)) dm (by omega) (by omega) (by omega)
    rw [vm] at g3 g4
    have h2:=z5 false g2 (by omega)
    rw [g3,oA] at h2
    simp only [e1,cA,e2,oB]
    refine Ev.bind g5 (Ev.bind h2 ?_)
    have hr:r=((m%n:Nat):Int):=by rw [g4];simp
    have hrlt:m%n<n:=Nat.mod_lt _ hn
    rw [hr,aQT (by omega),tD false (by omega),oB,oA]
    have:((((m:Int)/n).toNat:Nat):Int)=((m/n:Nat):Int):=by rw [←Int.natCast_ediv,Int.toNat_natCast]
    rw [this]
    exact Ev.pure _
   ·have e1:(((cO n).length:Int)==1)=false:=qF (by omega)
    obtain⟨q,r,g1,g2,g3,g4,g5,g6,g7⟩:=aPm dm dn tn (by omega) (by omega) (by omega)
    rw [vm,vn] at g5 g6
    have h2:=z5 false g3 (by omega)
    have h3:=z5 false g4 (by omega)
    rw [g5,oA] at h2
    rw [g6,oA] at h3
    simp only [e1,bU]
    refine Ev.bind g7 (Ev.bind h2 (Ev.bind h3 ?_))
    have e3:((((m:Int)/n).toNat:Nat):Int)=((m/n:Nat):Int):=by rw [←Int.natCast_ediv,Int.toNat_natCast]
    have e4:((((m:Int)%n).toNat:Nat):Int)=((m%n:Nat):Int):=by rw [←Int.natCast_emod,Int.toNat_natCast]
    rw [e3,e4]
    exact Ev.pure _
 unfold nP
 rw [aCU dm,aCU dn]
 simp only [oB]
 by_cases h1:(cO m).length≤2
 ·by_cases h2:(cO n).length≤2
  ·rw [if_pos h1,if_pos h2]
   simp only [cA,vm,vn]
   have b1:=aAo h1
   have hd:=Nat.div_le_self m n
   have hm:=Nat.mod_le m n
   have e1:zX (m:Int) (n:Int)=some ((m/n:Nat):Int):=by rw [tF (by omega) (by omega) (by omega)];simp
   have e2:yK (m:Int) (n:Int)=some ((m%n:Nat):Int):=by rw [mT (by omega) (by omega)];simp
   simp only [e1,e2,oB]
   rw [aQT (by omega),aQT (by omega),tD false (by omega),tD false (by omega)]
   simp only [oB,oA]
   exact Ev.pure _
  ·rw [if_pos h1,if_neg h2]
   simp only [cA,bU]
   exact key
 ·rw [if_neg h1]
  simp only [bU]
  exact key
theorem aMD {x y:Int} (hy:y≠0) (hx:dl x.natAbs≤40000000000) (hy2:dl y.natAbs≤40000000000):Ev (fun K=>tT K (Z x) (Z y)) (Z (x/y),Z (x%y)):=by
 have hyl:dl y.natAbs≠0:=by rw [Ne,xX];omega
 have e1:(((cO y.natAbs).length:Int)==0)=false:=qF (by show(dl y.natAbs:Int)≠0;omega)
 have hm0:=Nat.mod_lt x.natAbs (show 0<y.natAbs by omega)
 have hd:∀n:Nat,((Z (n:Int)).d.length:Int)=dl n:=fun n=>by rw [sY];simp
 have hdm:=aKW x.natAbs y.natAbs
 have hmm:=aID x.natAbs y.natAbs
 have hnd:=Nat.div_add_mod x.natAbs y.natAbs
 have cF:∀(q r:Nat),((if(x<0)↔(y<0) then(q:Int) else -(q:Int))=x/y)→((r:Int)=x%y)→Ev (fun K=>mB K (Z x) (Z y) (Z r) (Z q)) (Z (x/y),Z (x%y)):=by
  intro q r hq hr
  refine Ev.of fun K=>?_
  unfold mB
  rw [wI,wI,←hq,←hr]
  by_cases hs:(x<0)↔(y<0)
  ·have e:(decide (x<0) != decide (y<0))=false:=by simp [hs]
   rw [e,bU,if_pos hs]
   have:(Z (q:Int))=⟨false,(Z (q:Int)).d⟩:=by unfold Z;simp
   rw [←this]
  ·have e:(decide (x<0) != decide (y<0))=true:=by simp;exact hs
   rw [e,cA,if_neg hs]
   congr 2
   unfold Z
   rw [Int.natAbs_neg]
   congr 1
   have:(cO (q:Int).natAbs).length=dl q:=by simp [dl]
   rw [this]
   by_cases h0:q=0
   ·subst h0;rw [yH];rfl
   ·have:dl q≠0:=by rw [Ne,xX];exact h0
    rw [dT (by omega),dT (by omega)]
 have eT:∀z:Int,(z.natAbs:Int)=z∨(z.natAbs:Int)=-z:=fun z=>by omega
 unfold tT
 simp only [e1,bU,Z_d,wI]
 refine Ev.bind (aGo (m:=x.natAbs) (n:=y.natAbs) (by omega) (by omega)) ?_
 have c1:(x.natAbs:Int)=(y.natAbs:Int)*((x.natAbs/y.natAbs:Nat):Int)+((x.natAbs%y.natAbs:Nat):Int):=by
  rw [←Int.natCast_mul,←Int.natCast_add,hnd]
 generalize hq:x.natAbs/y.natAbs=q at *
 generalize hr:x.natAbs%y.natAbs=r at *
 have uniq:∀a b:Int,x=y*a+b→0≤b→b<y.natAbs→x/y=a∧x%y=b:=by
  intro a b h1 h2 h3
  have hm:x%y=b:=by
   rw [h1,Int.add_comm,Int.add_mul_emod_self_left]
   by_cases hy0:y<0
   ·have:b%y=b% -y:=by rw [Int.emod_neg]
    rw [this,Int.emod_eq_of_lt h2 (by omega)]
   ·exact Int.emod_eq_of_lt h2 (by omega)
  refine⟨?_,hm⟩
  have h4:=Int.mul_ediv_add_emod x y
  exact Int.eq_of_mul_eq_mul_left hy (by omega)
 by_cases hx0:x<0
 ·have e2:decide (x<0)=true:=dT hx0
  simp only [e2,cA]
  by_cases hr0:r=0
  ·subst hr0
   have e3:decide (0<((Z ((0:Nat):Int)).d.length:Int))=false:=by rw [Z_d,show((0:Nat):Int).natAbs=0 from rfl,aAV];rfl
   simp only [e3,bU]
   refine cF q 0 ?_ ?_
   ·by_cases hy0:y<0
    ·rw [if_pos (by simp [hx0,hy0])]
     refine((uniq q 0 ?_ (by omega) (by omega)).1).symm
     rw [show(y.natAbs:Int)=-y by omega,show(x.natAbs:Int)=-x by omega] at c1
     rw [Int.neg_mul] at c1;omega
    ·rw [if_neg (by simp [hx0,hy0])]
     refine((uniq (-q) 0 ?_ (by omega) (by omega)).1).symm
     rw [show(y.natAbs:Int)=y by omega,show(x.natAbs:Int)=-x by omega] at c1
     rw [Int.mul_neg];omega
   ·by_cases hy0:y<0
    ·refine((uniq q 0 ?_ (by omega) (by omega)).2).symm
     rw [show(y.natAbs:Int)=-y by omega,show(x.natAbs:Int)=-x by omega] at c1
     rw [Int.neg_mul] at c1;omega
    ·refine((uniq (-q) 0 ?_ (by omega) (by omega)).2).symm
     rw [show(y.natAbs:Int)=y by omega,show(x.natAbs:Int)=-x by omega] at c1
     rw [Int.mul_neg];omega
  ·have hrl:dl r≠0:=by rw [Ne,xX];exact hr0
   have e3:decide (0<((Z (r:Int)).d.length:Int))=true:=dT (by rw [sY];simp only [Int.natAbs_natCast];omega)
   simp only [e3,cA]
   simp only [Z_d,Int.natAbs_natCast]
   have d1:lW [1]:=lW.nil.cons (by omega) (by omega)
   obtain⟨p,p1,p2,p3,p4⟩:=aJv (cM q) d1 (by show dl q≤_;omega) (by simp)
   rw [dW,vD1] at p3
   have o1:=z5 false p1 (by have:(cO q).length=dl q:=rfl;simp at p2;omega)
   rw [p3,oA] at o1
   obtain⟨s,s1,s2,s3,s4⟩:=aFh (cM y.natAbs) (cM r) (rL (by omega)) (by rw [dW,dW];omega) (by show dl _≤_;omega)
   rw [dW,dW] at s3
   have o2:=z5 false s2 (by rw [s1];show dl _≤_;omega)
   rw [s3,oA] at o2
   refine Ev.bind p4 (Ev.bind o1 (Ev.bind s4 (Ev.bind o2 ?_)))
   refine cF _ _ ?_ ?_
   ·by_cases hy0:y<0
    ·rw [if_pos (by simp [hx0,hy0])]
     refine((uniq (q+1) (y.natAbs-r) ?_ (by omega) (by omega)).1).symm▸(by omega)
     rw [show(y.natAbs:Int)=-y by omega,show(x.natAbs:Int)=-x by omega] at c1
     rw [Int.neg_mul] at c1;rw [Int.mul_add];omega
    ·rw [if_neg (by simp [hx0,hy0])]
     refine((uniq (-(q+1)) (y.natAbs-r) ?_ (by omega) (by omega)).1).symm▸(by omega)
     rw [show(y.natAbs:Int)=y by omega,show(x.natAbs:Int)=-x by omega] at c1
     rw [Int.mul_neg,Int.mul_add];omega
   ·by_cases hy0:y<0
    ·refine((uniq (q+1) (y.natAbs-r) ?_ (by omega) (by omega)).2).symm▸(by omega)
     rw [show(y.natAbs:Int)=-y by omega,show(x.natAbs:Int)=-x by omega] at c1
     rw [Int.neg_mul] at c1;rw [Int.mul_add];omega
    ·refine((uniq (-(q+1)) (y.natAbs-r) ?_ (by omega) (by omega)).2).symm▸(by omega)
     rw [show(y.natAbs:Int)=y by omega,show(x.natAbs:Int)=-x by omega] at c1
     rw [Int.mul_neg,Int.mul_add];omega
 ·have e2:decide (x<0)=false:=dF hx0
  simp only [e2,bU]
  refine cF q r ?_ ?_
  ·by_cases hy0:y<0
   ·rw [if_neg (by simp [hx0,hy0])]
    refine((uniq (-q) r ?_ (by omega) (by omega)).1).symm
    rw [show(y.natAbs:Int)=-y by omega,show(x.natAbs:Int)=x by omega] at c1
    rw [Int.neg_mul] at c1;rw [Int.mul_neg];omega
   ·rw [if_pos (by simp [hx0,hy0])]
    refine((uniq q r ?_ (by omega) (by omega)).1).symm
    rw [show(y.natAbs:Int)=y by omega,show(x.natAbs:Int)=x by omega] at c1
    omega
  ·by_cases hy0:y<0
   ·refine((uniq (-q) r ?_ (by omega) (by omega)).2).symm
    rw [show(y.natAbs:Int)=-y by omega,show(x.natAbs:Int)=x by omega] at c1
    rw [Int.neg_mul] at c1;rw [Int.mul_neg];omega
   ·refine((uniq q r ?_ (by omega) (by omega)).2).symm
    rw [show(y.natAbs:Int)=y by omega,show(x.natAbs:Int)=x by omega] at c1
    omega
theorem aQP (K:Nat):∀(n m k:Nat),n<k→kT K k (m:Int) (n:Int)=some ((Nat.gcd m n:Nat):Int):=by
 intro n
 induction n using Nat.strongRecOn with
 |_ n ih=>
  intro m k hk
  obtain⟨k',rfl,_⟩:=bD hk
  by_cases h:n=0
  ·subst h
   simp [kT]
  ·have e1:decide (0<(n:Int))=true:=dT (by omega)
   have e2:yK (m:Int) (n:Int)=some ((m%n:Nat):Int):=by rw [mT (by omega) (by omega)];simp
   simp only [kT,e1,cA,e2,oB]
   have hlt:=Nat.mod_lt m (show 0<n by omega)
   rw [ih (m%n) hlt n k' (by omega)]
   congr 2
   rw [Nat.gcd_comm m n,Nat.gcd_rec n m,Nat.gcd_comm]
theorem aQR:∀(n m:Nat),dl m≤60000000000→dl n≤60000000000→∃r,wQ (fun K k=>jD K k (Z (m:Int)) (Z (n:Int))) r∧(r=.ret (Z (Nat.gcd m n:Nat))∨r=.go (Z (Nat.gcd m n:Nat))):=by
 intro n
 induction n using Nat.strongRecOn with
 |_ n ih=>
  intro m hm hn
  by_cases h:n=0
  ·subst h
   refine⟨.go (Z m),wQ.of 1 fun K k hk=>?_,.inr (by simp)⟩
   obtain⟨k',rfl,_⟩:=bD (n:=0) hk
   have e:decide (0<((Z ((0:Nat):Int)).d.length:Int))=false:=by rw [sY,show((0:Nat):Int).natAbs=0 from rfl,yH];rfl
   simp only [jD,e,bU]
  ·have hl:dl n≠0:=by rw [Ne,xX];exact h
   have e1:decide (0<((cO n).length:Int))=true:=dT (by show(0:Int)<dl n;omega)
   have hlt:=Nat.mod_lt m (show 0<n by omega)
   obtain⟨r,h1,h2⟩:=ih (m%n) hlt n hn (Nat.le_trans (aID _ _) hm)
   have hg:Nat.gcd n (m%n)=Nat.gcd m n:=by rw [Nat.gcd_comm m n,Nat.gcd_rec n m,Nat.gcd_comm]
   rw [hg] at h2
   have hdiv:=aGo (m:=m) (n:=n) (by omega) hm
   have zd:∀t:Nat,(Z (t:Int)).d=cO t:=fun t=>by rw [Z_d];simp
   by_cases hs:dl m≤2∧dl n≤2
   ·refine⟨.ret (Z (Nat.gcd m n:Nat)),wQ.step ?_,.inl rfl⟩
    have b1:=aAo (n:=m) hs.1
    have b2:=aAo (n:=n) hs.2
    have hgl:Nat.gcd m n≤n:=Nat.gcd_le_right m (by omega)
    simp only [jD,e1,cA,zd,aCU (cM m),aCU (cM n),dW,oB]
    rw [if_pos (show(cO m).length≤2 from hs.1),if_pos (show(cO n).length≤2 from hs.2)]
    simp only [cA]
    refine wQ.bind (x:=((Nat.gcd m n:Nat):Int)) (f:=fun K=>kT K K (m:Int) (n:Int)) ⟨n+1,fun K hK=>aQP K n m K (by omega)⟩ ?_
    simp only [uB,aQT (show Nat.gcd m n≤18446744073709551615 by omega),tD false (show Nat.gcd m n≤18446744073709551615 by omega),oB,oA]
    exact wQ.of 0 fun _ _ _=>rfl
   ·refine⟨r,wQ.step ?_,h2⟩
    simp only [jD,e1,cA,zd,aCU (cM m),aCU (cM n),dW,oB]
    by_cases hs1:(cO m).length≤2
    ·have hs2:¬(cO n).length≤2:=fun e=>hs ⟨hs1,e⟩
     rw [if_pos hs1,if_neg hs2]
     simp only [cA,bU]
     exact wQ.bind hdiv h1
    ·rw [if_neg hs1]
     simp only [bU]
     exact wQ.bind hdiv h1
theorem aMs {x y:Int} (hx:dl x.natAbs≤60000000000) (hy:dl y.natAbs≤60000000000):Ev (fun K=>tQ K (Z x) (Z y)) (Z (Int.gcd x y:Nat)):=by
 unfold tQ
 have h1:=z5 false (cM x.natAbs) (by show dl _≤_;omega)
 have h2:=z5 false (cM y.natAbs) (by show dl _≤_;omega)
 rw [dW,oA,Int.toNat_natCast] at h1 h2
 simp only [Z_d]
 refine Ev.bind h1 (Ev.bind h2 ?_)
 obtain⟨r,h3,h4⟩:=aQR y.natAbs x.natAbs hx hy
 refine Ev.bind h3.ev ?_
 rcases h4 with rfl|rfl
 ·exact Ev.pure _
 ·exact Ev.pure _
end Go.Proofs.YtldhbdgfpjoamaaGreat
set_option linter.unusedVariables false
namespace Go.Proofs.YtldhbdgfpjoamaaGreat
theorem aGW (u:List Int):∀(n:Nat),n≤u.length→n≤9000000000000→∃m:Nat,m≤n∧(∀i,m≤i→i<n→u.getD i 0=0)∧(m=0∨u.getD (m-1) 0≠0)∧∀K k,n<k→fD K u k n=some (m:Int)
 |0,_,_=>⟨0,Nat.le_refl _,fun i _ h=>by omega,.inl rfl,fun K k hk=>by
   obtain⟨k',rfl,_⟩:=bD hk
   simp [fD]⟩
 |n+1,h,hL=>by
  have e1:aT (((n+1:Nat):Int)-1)=some (n:Int):=ckN (m:=0) (by omega) (by omega)
  have e2:decide (0<((n+1:Nat):Int))=true:=dT (by omega)
  have e0:max (n:Int) 0=(n:Int):=by omega
  have e3:=dK (xs:=u) (i:=n) (by omega)
  by_cases h0:u.getD n 0=0
  ·obtain⟨m,h1,h2,h3,h4⟩:=aGW u n (by omega) (by omega)
   refine⟨m,by omega,fun i a b=>?_,h3,fun K k hk=>?_⟩
   ·by_cases e:i=n
    ·subst e;exact h0
    ·exact h2 i a (by omega)
   ·obtain⟨k',rfl,hk'⟩:=bD hk
    simp only [fD,e0,e1,e2,e3,qT h0,cA,oB]
    exact h4 K k' (by omega)
  ·refine⟨n+1,by omega,fun i a b=>by omega,.inr (by simpa using h0),fun K k hk=>?_⟩
   obtain⟨k',rfl,hk'⟩:=bD hk
   simp only [fD,e0,e1,e2,e3,qF h0,cA,bU,oB]
theorem jX (neg:Bool) {u:List Int} (hd:lW u) (hL:u.length≤9000000000000):Ev (fun K=>bI K neg u) (mkG neg (vD u).toNat):=by
 obtain⟨m,h1,h2,h3,h4⟩:=aGW u u.length (Nat.le_refl _) hL
 obtain⟨h5,h6⟩:=aVb hd h1 h2 h3
 have hn:=hd.nonneg
 refine⟨u.length+1,fun K hK=>?_⟩
 simp only [bI,h4 K K (by omega),oB,oY]
 unfold mkG
 by_cases h0:m=0
 ·rw [qT (by omega),cA,if_pos (by have:=h6.1 h0;omega)]
 ·rw [qF (by omega),bU,aIe h1,oB,if_neg (by intro h;exact h0 (h6.2 (by omega))),h5]
theorem aTa {u:List Int} {x:Int} (h:u.length≤60000000000):qR u [x]=some (u++[x]):=aCq (by simp;omega)
theorem lW.snoc {u:List Int} {x:Int} (h:lW u) (h0:0≤x) (h1:x<1000000000):lW (u++[x]):=fun i=>by
 rcases Nat.lt_trichotomy i u.length with h2|h2|h2
 ·rw [aJa h2];exact h i
 ·subst h2;rw [aH2];exact⟨h0,h1⟩
 ·rw [wE (by simp;omega)];omega
theorem aQC:∀(n:Nat) (neg:Bool) (u:List Int),n≤9223372036854775808→(neg=false→n≤9223372036854775807)→lW u→u.length+n≤30000000000000000000→u.length+dl n≤50→∃r,lW r∧r.length≤u.length+dl n∧vD r=vD u+n*PB u.length∧∀K k,n<k→dZ K k u (if neg then -(n:Int) else n)=some r:=by
 intro n
 induction n using Nat.strongRecOn with
 |_ n ih=>
  intro neg u h1 h2 hu h3 h4
  by_cases h0:n=0
  ·subst h0
   refine⟨u,hu,by omega,by simp,fun K k hk=>?_⟩
   obtain⟨k',rfl,_⟩:=bD hk
   cases neg<;>simp [dZ]
  ·have hdl:dl n=dl (n/1000000000)+1:=by unfold dl;rw [yB h0];rfl
   obtain⟨r,g1,g2,g3,g4⟩:=ih (n/1000000000) (by omega) neg (u++[((n%1000000000:Nat):Int)]) (by omega) (fun e=>by have:=h2 e;omega) (hu.snoc (by omega) (by omega)) (by simp;omega) (by simp;omega)
   have hul:(u++[((n%1000000000:Nat):Int)]).length=u.length+1:=by simp
   rw [hul] at g2 g3
   refine⟨r,g1,by omega,?_,fun K k hk=>?_⟩
   ·rw [g3]
    unfold vD
    rw [hul,aNS]
    simp only [PB]
    have:(n:Int)=(n%1000000000:Nat)+((n/1000000000:Nat):Int)*1000000000:=by omega
    rw [show(n:Int)*PB u.length=((n%1000000000:Nat)+((n/1000000000:Nat):Int)*1000000000)*PB u.length by rw [←this]]
    grind
   ·obtain⟨k',rfl,_⟩:=bD hk
    have a1:∀x:Int,qR u [x]=some (u++[x]):=fun x=>aTa (by omega)
    cases neg with
    |false=>
     have g4':=g4 K k' (by omega)
     simp only [Bool.false_eq_true,if_false] at g4' ⊢
     have:=h2 rfl
     have e1:((n:Int) != 0)=true:=nT (by omega)
     have e2:yK (n:Int) 1000000000=some ((n%1000000000:Nat):Int):=by rw [mT (by omega) (by omega)];simp
     have e3:zX (n:Int) 1000000000=some ((n/1000000000:Nat):Int):=by rw [tF (by omega) (by omega) (by omega)];simp
     have e4:decide (((n%1000000000:Nat):Int)<0)=false:=dF (by omega)
     simp only [dZ,e1,e2,e3,e4,a1,cA,bU,oB]
     exact g4'
    |true=>
     have g4':=g4 K k' (by omega)
     simp only [if_true] at g4' ⊢
     have e1:(-(n:Int) != 0)=true:=nT (by omega)
     have e2:yK (-(n:Int)) 1000000000=some (-((n%1000000000:Nat):Int)):=by
      unfold yK
      rw [if_neg (by omega),Int.neg_tmod,Int.tmod_eq_emod_of_nonneg (by omega)];simp
     have e3:zX (-(n:Int)) 1000000000=some (-((n/1000000000:Nat):Int)):=by
      unfold zX
      rw [if_neg (by omega),Int.neg_tdiv,Int.tdiv_eq_ediv_of_nonneg (by omega),show(n:Int)/1000000000=((n/1000000000:Nat):Int) by simp]
      exact k5 (by omega)
     by_cases hz:n%1000000000=0
     ·have e4:decide (-((n%1000000000:Nat):Int)<0)=false:=dF (by omega)
      simp only [dZ,e1,e2,e3,e4,a1,cA,bU,oB]
      rw [hz] at g4' ⊢
      exact g4'
     ·have e4:decide (-((n%1000000000:Nat):Int)<0)=true:=dT (by omega)
      have e5:aT (- -((n%1000000000:Nat):Int))=some ((n%1000000000:Nat):Int):=by rw [Int.neg_neg];exact k5 (by omega)
      simp only [dZ,e1,e2,e3,e4,e5,a1,cA,oB]
      exact g4'
theorem aBG {n:Int} (h:-9223372036854775808≤n∧n≤9223372036854775807):Ev (fun K=>gU K n) (Z n):=by
 have hl:dl n.natAbs≤3:=aDt (by
  have:PB 3=1000000000000000000000000000:=by decide
  omega)
 obtain⟨r,h1,h2,h3,h4⟩:=aQC n.natAbs (decide (n<0)) [] (by omega) (by simp;omega) lW.nil (by simp;omega) (by simp;omega)
 have e:(if decide (n<0)=true then -(n.natAbs:Int) else(n.natAbs:Int))=n:=by
  by_cases h0:n<0
  ·rw [if_pos (by simpa using h0)];omega
  ·rw [if_neg (by simpa using h0)];omega
 rw [e] at h4
 have h5:=jX (decide (n<0)) h1 (by simp at h2;omega)
 rw [h3,vD0] at h5
 simp only [List.length_nil,PB,Int.mul_one,Int.zero_add,Int.toNat_natCast] at h5
 rw [vG,e] at h5
 unfold gU
 refine Ev.bind (f:=fun K=>dZ K K [] n) ⟨n.natAbs+1,fun K hK=>h4 K K (by omega)⟩ ?_
 simp only [rP]
 exact Ev.bind h5 (Ev.pure _)
theorem wY (u:List Int) (i:Nat):dO u (i:Int)=some (u.getD i 0):=by
 unfold dO
 by_cases h:i<u.length
 ·rw [dT (by omega),cA,dK h,oB]
 ·rw [dF (by omega),bU,wE (by omega)]
theorem aSX {u:List Int} {x:Int} {i:Nat} (h:u.length=i):W (u++[x]) 0 (i+1)=W u 0 i+x*PB i:=by subst h;exact aNS
theorem aNE {a b:List Int} (ha:lW a) (hb:lW b) {M:Nat} (hL:a.length≤M) (hM:b.length≤M) (hMM:M≤50000000000):∀(t i:Nat) (out:List Int) (c:Int),M+1-i=t→i≤M+1→out.length=i→lW out→0≤c→c≤1→(i=M+1→c=0)→W out 0 i+c*PB i=W a 0 i+W b 0 i→
  ∃r,r.length≤M+1∧lW r∧vD r=vD a+vD b∧∀K k,t<k→cU K a b k out c (i:Int)=some r:=by
 intro t
 induction t with
 |zero=>
  intro i out c ht hi ho hD hc0 hc1 hc hI
  have hii:i=M+1:=by omega
  have:=hc hii
  subst this
  refine⟨out,by omega,hD,?_,fun K k hk=>?_⟩
  ·rw [aBI (u:=a) (by omega),aBI (u:=b) (by omega)] at hI
   unfold vD
   rw [ho];omega
  ·obtain⟨k',rfl,_⟩:=bD hk
   have e1:decide ((i:Int)<(a.length:Int))=false:=dF (by omega)
   have e2:decide ((i:Int)<(b.length:Int))=false:=dF (by omega)
   have e3:decide ((0:Int)<0)=false:=dF (by omega)
   simp only [cU,e1,e2,e3,bU]
 |succ t ih=>
  intro i out c ht hi ho hD hc0 hc1 hc hI
  have ha':=ha i
  have hb':=hb i
  have f1:aT (a.getD i 0+b.getD i 0)=some (a.getD i 0+b.getD i 0):=k5 (by omega)
  have f2:aT (a.getD i 0+b.getD i 0+c)=some (a.getD i 0+b.getD i 0+c):=k5 (by omega)
  have f3:yK (a.getD i 0+b.getD i 0+c) 1000000000=some ((a.getD i 0+b.getD i 0+c)%1000000000):=mT (by omega) (by omega)
  have f4:zX (a.getD i 0+b.getD i 0+c) 1000000000=some ((a.getD i 0+b.getD i 0+c)/1000000000):=tF (by omega) (by omega) (by omega)
  have f5:aT ((i:Int)+1)=some ((i+1:Nat):Int):=ckN (m:=0) (by omega) (by omega)
  have f6:∀x:Int,qR out [x]=some (out++[x]):=fun x=>aTa (by omega)
  have go:(i=M→a.getD i 0=0∧b.getD i 0=0)→i≤M→∃r,r.length≤M+1∧lW r∧vD r=vD a+vD b∧∀K k,t<k→cU K a b k (out++[(a.getD i 0+b.getD i 0+c)%1000000000]) ((a.getD i 0+b.getD i 0+c)/1000000000) ((i+1:Nat):Int)=some r:=by
   intro hlast hile
   refine ih (i+1) _ _ (by omega) (by omega) (by simp;omega) (hD.snoc (by omega) (by omega)) (by omega) (by omega) (fun e=>?_) ?_
   ·have:=hlast (by omega);omega
   ·rw [aSX ho,d7,d7,Nat.zero_add]
    simp only [PB]
    have hd:(a.getD i 0+b.getD i 0+c)%1000000000+1000000000*((a.getD i 0+b.getD i 0+c)/1000000000)=a.getD i 0+b.getD i 0+c:=by omega
    grind
  by_cases h1:i<a.length
  ·obtain⟨r,g1,g2,g3,g4⟩:=go (fun e=>by omega) (by omega)
   refine⟨r,g1,g2,g3,fun K k hk=>?_⟩
   obtain⟨k',rfl,_⟩:=bD hk
   simp only [cU,dT (show(i:Int)<(a.length:Int) by omega),wY,f1,f2,f3,f4,f5,f6,cA,oB]
   exact g4 K k' (Nat.lt_of_succ_lt_succ hk)
  ·by_cases h2:i<b.length
   ·obtain⟨r,g1,g2,g3,g4⟩:=go (fun e=>by omega) (by omega)
    refine⟨r,g1,g2,g3,fun K k hk=>?_⟩
    obtain⟨k',rfl,_⟩:=bD hk
    simp only [cU,dF (show¬(i:Int)<(a.length:Int) by omega),dT (show(i:Int)<(b.length:Int) by omega),wY,f1,f2,f3,f4,f5,f6,cA,bU,oB]
    exact g4 K k' (Nat.lt_of_succ_lt_succ hk)
   ·by_cases h3:0<c
    ·obtain⟨r,g1,g2,g3,g4⟩:=go (fun e=>⟨wE (by omega),wE (by omega)⟩) (by
      rcases Nat.lt_or_ge (M) i with h|h
      ·have:=hc (by omega);omega
      ·exact h)
     refine⟨r,g1,g2,g3,fun K k hk=>?_⟩
     obtain⟨k',rfl,_⟩:=bD hk
     simp only [cU,dF (show¬(i:Int)<(a.length:Int) by omega),dF (show¬(i:Int)<(b.length:Int) by omega),dT h3,wY,f1,f2,f3,f4,f5,f6,cA,bU,oB]
     exact g4 K k' (Nat.lt_of_succ_lt_succ hk)
    ·refine⟨out,by omega,hD,?_,fun K k hk=>?_⟩
     ·rw [aBI (u:=a) (by omega),aBI (u:=b) (by omega)] at hI
      have:c=0:=by omega
      subst this
      unfold vD
      rw [ho];omega
     ·obtain⟨k',rfl,_⟩:=bD hk
      simp only [cU,dF (show¬(i:Int)<(a.length:Int) by omega),dF (show¬(i:Int)<(b.length:Int) by omega),dF h3,bU]
theorem aNx {a b:List Int} (ha:lW a) (hb:lW b) (hL:a.length≤50000000000) (hM:b.length≤50000000000):∃r,lW r∧r.length≤max a.length b.length+1∧vD r=vD a+vD b∧Ev (fun K=>qB K a b) r:=by
 obtain⟨r,h1,h2,h3,h4⟩:=aNE (M:=max a.length b.length) ha hb (by omega) (by omega) (by omega) _ 0 [] 0 rfl (by omega) rfl lW.nil (by omega) (by omega) (by omega) (by simp [W])
 refine⟨r,h2,h1,h3,⟨max a.length b.length+2,fun K hK=>?_⟩⟩
 have:=h4 K K (by omega)
 simp only [Int.natCast_zero] at this
 simp only [qB,this,oB,pW]
theorem aDS {a b:List Int} (ha:lW a) (hb:lW b) (hbl:b.length≤a.length) (hv:vD b≤vD a) (hL:a.length≤50000000000):∀(t i:Nat) (out:List Int) (c:Int),i+t=a.length→out.length=i→lW out→0≤c→c≤1→W out 0 i-c*PB i=W a 0 i-W b 0 i→
  ∃r,r.length=a.length∧lW r∧vD r=vD a-vD b∧∀K k,t<k→eA K a b k out c (i:Int)=some r
 |0,i,out,c,hi,ho,hD,hc0,hc1,hI=>by
  have:i=a.length:=by omega
  subst this
  refine⟨out,ho,hD,?_,fun K k hk=>?_⟩
  ·rw [aBI (u:=b) hbl] at hI
   have hlt:=hD.lt
   unfold vD at *
   rw [ho] at hlt ⊢
   have:c=0:=by
    rcases Int.lt_or_le 0 c with h|h
    ·have:c=1:=by omega
     subst this
     omega
    ·omega
   subst this
   omega
  ·obtain⟨k',rfl,_⟩:=bD hk
   simp [eA]
 |t+1,i,out,c,hi,ho,hD,hc0,hc1,hI=>by
  have ha':=ha i
  have hb':=hb i
  have e1:decide ((i:Int)<(a.length:Int))=true:=dT (by omega)
  have e2:=dK (xs:=a) (i:=i) (by omega)
  have f1:aT (a.getD i 0-b.getD i 0)=some (a.getD i 0-b.getD i 0):=k5 (by omega)
  have f2:aT (a.getD i 0-b.getD i 0-c)=some (a.getD i 0-b.getD i 0-c):=k5 (by omega)
  have f5:aT ((i:Int)+1)=some ((i+1:Nat):Int):=ckN (m:=0) (by omega) (by omega)
  have f6:∀x:Int,qR out [x]=some (out++[x]):=fun x=>aTa (by omega)
  by_cases hn:a.getD i 0-b.getD i 0-c<0
  ·have f3:aT (a.getD i 0-b.getD i 0-c+1000000000)=some (a.getD i 0-b.getD i 0-c+1000000000):=k5 (by omega)
   obtain⟨r,g1,g2,g3,g4⟩:=aDS ha hb hbl hv hL t (i+1) (out++[a.getD i 0-b.getD i 0-c+1000000000]) 1 (by omega) (by simp;omega) (hD.snoc (by omega) (by omega)) (by omega) (by omega) (by
    rw [aSX ho,d7,d7,Nat.zero_add]
    simp only [PB]
    grind)
   refine⟨r,g1,g2,g3,fun K k hk=>?_⟩
   obtain⟨k',rfl,_⟩:=bD hk
   simp only [eA,e1,e2,wY,f1,f2,f3,f5,f6,dT hn,cA,oB]
   exact g4 K k' (by omega)
  ·obtain⟨r,g1,g2,g3,g4⟩:=aDS ha hb hbl hv hL t (i+1) (out++[a.getD i 0-b.getD i 0-c]) 0 (by omega) (by simp;omega) (hD.snoc (by omega) (by omega)) (by omega) (by omega) (by
    rw [aSX ho,d7,d7,Nat.zero_add]
    simp only [PB]
    grind)
   refine⟨r,g1,g2,g3,fun K k hk=>?_⟩
   obtain⟨k',rfl,_⟩:=bD hk
   simp only [eA,e1,e2,wY,f1,f2,f5,f6,dF hn,cA,bU,oB]
   exact g4 K k' (by omega)
theorem aB1 {a b:List Int} (ha:lW a) (hb:lW b) (hbl:b.length≤a.length) (hv:vD b≤vD a) (hL:a.length≤50000000000):
  ∃r,r.length=a.length∧lW r∧vD r=vD a-vD b∧Ev (fun K=>fH K a b) r:=by
 obtain⟨r,g1,g2,g3,g4⟩:=aDS ha hb hbl hv hL a.length 0 [] 0 (by omega) rfl lW.nil (by omega) (by omega) (by simp [W])
 refine⟨r,g1,g2,g3,⟨a.length+1,fun K hK=>?_⟩⟩
 have h:=g4 K K (by omega)
 simp only [Int.natCast_zero] at h
 simp only [fH,oB,h,oR]
theorem aEJ {u v:List Int} (hu:lW u) (hv:lW v) (hl:u.length=v.length) (hL:u.length≤9000000000000):∀(j:Nat),j≤u.length→∀K k,j<k→
  dS K u v k ((j:Int)-1)=some (if W u 0 j<W v 0 j then .ret (-1) else if W v 0 j<W u 0 j then .ret 1 else .go ())
 |0,_,K,k,hk=>by
  obtain⟨k',rfl,_⟩:=bD hk
  simp [dS,W]
 |j+1,hj,K,k,hk=>by
  obtain⟨k',rfl,hk'⟩:=bD hk
  have e0:((j+1:Nat):Int)-1=(j:Int):=by omega
  have e1:decide (0≤(j:Int))=true:=dT (by omega)
  have e2:=dK (xs:=u) (i:=j) (by omega)
  have e3:=dK (xs:=v) (i:=j) (by omega)
  rw [e0]
  rcases Int.lt_trichotomy (u.getD j 0) (v.getD j 0) with h|h|h
  ·have:=aLV hu hv h
   simp only [dS,e1,e2,e3,dT h,cA,oB]
   rw [if_pos this]
  ·have e5:aT ((j:Int)-1)=some ((j:Int)-1):=k5 (by omega)
   have ih:=aEJ hu hv hl hL j (by omega) K k' (by omega)
   have c1:(W u 0 (j+1)<W v 0 (j+1))↔(W u 0 j<W v 0 j):=by rw [d7,d7,Nat.zero_add,h];omega
   have c2:(W v 0 (j+1)<W u 0 (j+1))↔(W v 0 j<W u 0 j):=by rw [d7,d7,Nat.zero_add,h];omega
   simp only [dS,e1,e2,e3,dF (show¬u.getD j 0<v.getD j 0 by omega),dF (show¬v.getD j 0<u.getD j 0 by omega),e5,cA,bU,oB,c1,c2]
   exact ih
  ·have:=aLV hv hu h
   simp only [dS,e1,e2,e3,dF (show¬u.getD j 0<v.getD j 0 by omega),dT h,cA,bU,oB]
   rw [if_neg (by omega),if_pos this]
theorem wH {u v:List Int} (hu:lW u) (hv:lW v) (tu:Top u) (tv:Top v) (hL:u.length≤9000000000000):Ev (fun K=>cT K u v) (w6 (vD u) (vD v)):=by
 refine⟨u.length+1,fun K hK=>?_⟩
 unfold w6
 rcases Nat.lt_trichotomy u.length v.length with h|h|h
 ·have:=aIS hu hv tv h
  simp only [cT,dT (show(u.length:Int)<(v.length:Int) by omega),cA]
  rw [if_pos this]
 ·have e2:aT ((u.length:Int)-1)=some ((u.length:Int)-1):=k5 (by omega)
  have e3:=aEJ hu hv h hL u.length (Nat.le_refl _) K K (by omega)
  simp only [cT,dF (show¬(u.length:Int)<(v.length:Int) by omega),dF (show¬(v.length:Int)<(u.length:Int) by omega),e2,e3,bU,oB]
  unfold vD
  rw [←h]
  by_cases h1:W u 0 u.length<W v 0 u.length
  ·rw [if_pos h1,if_pos h1]
  ·rw [if_neg h1,if_neg h1]
   by_cases h2:W v 0 u.length<W u 0 u.length
   ·rw [if_pos h2,if_pos h2]
   ·rw [if_neg h2,if_neg h2];rfl
 ·have:=aIS hv hu tu h
  simp only [cT,dF (show¬(u.length:Int)<(v.length:Int) by omega),dT (show(v.length:Int)<(u.length:Int) by omega),cA,bU]
  rw [if_neg (by omega),if_pos this]
theorem aJh (x:Int) (hL:dl x.natAbs≤60000000000):Ev (fun K=>oP K (Z x)) (Z (-x)):=by
 unfold oP
 have h:=jX (!decide (x<0)) (cM x.natAbs) (by show dl _≤_;omega)
 rw [dW,Int.toNat_natCast,vG] at h
 have e:(if(!decide (x<0))=true then -(x.natAbs:Int) else(x.natAbs:Int))=-x:=by
  by_cases h0:x<0
  ·rw [dT h0];simp;omega
  ·rw [dF h0];simp;omega
 rw [e] at h
 exact Ev.bind h (Ev.pure _)
theorem aJK {x y:Int} (hx:dl x.natAbs≤40000000000) (hy:dl y.natAbs≤40000000000):Ev (fun K=>oQ K (Z x) (Z y)) (Z (x+y)):=by
 have dx:=cM x.natAbs
 have dy:=cM y.natAbs
 have vx:=dW x.natAbs
 have vy:=dW y.natAbs
 have tx:=oN x.natAbs
 have ty:=oN y.natAbs
 have lx:(cO x.natAbs).length≤40000000000:=hx
 have ly:(cO y.natAbs).length≤40000000000:=hy
 unfold oQ
 simp only [Z_d,wI]
 by_cases hs:(decide (x<0)==decide (y<0))=true
 ·simp only [hs,cA]
  obtain⟨r,h1,h2,h3,h4⟩:=aNx dx dy (by omega) (by omega)
  have h5:=jX (decide (x<0)) h1 (by omega)
  refine Ev.bind h4 (Ev.bind h5 ?_)
  rw [vG]
  have hs':(x<0)↔(y<0):=by simpa using hs
  have:(if decide (x<0)=true then -(((vD r).toNat:Nat):Int) else(((vD r).toNat:Nat):Int))=x+y:=by
   by_cases h:x<0
   ·rw [if_pos (by simpa using h)];omega
   ·rw [if_neg (by simpa using h)];omega
  rw [this]
  exact Ev.pure _
 ·simp only [Bool.not_eq_true] at hs
  simp only [hs,bU]
  have hs':¬((x<0)↔(y<0)):=by simpa using hs
  refine Ev.bind (wH dx dy tx ty (by omega)) ?_
  rw [vx,vy]
  unfold w6
  by_cases hlt:x.natAbs<y.natAbs
  ·have hle:(cO x.natAbs).length≤(cO y.natAbs).length:=rL (by omega)
   obtain⟨r,h1,h2,h3,h4⟩:=aB1 dy dx hle (by omega) (by omega)
   have h5:=jX (decide (y<0)) h2 (by omega)
   rw [if_pos (by omega)]
   refine Ev.congr (g:=fun K=>(fH K (cO y.natAbs) (cO x.natAbs)).bind fun v16=>(bI K (decide (y<0)) v16).bind fun v18=>some v18) ?_ (fun K=>rfl)
   refine Ev.bind h4 (Ev.bind h5 ?_)
   rw [vG]
   have:(if decide (y<0)=true then -(((vD r).toNat:Nat):Int) else(((vD r).toNat:Nat):Int))=x+y:=by
    by_cases h:y<0
    ·rw [if_pos (by simpa using h)];omega
    ·rw [if_neg (by simpa using h)];omega
   rw [this]
   exact Ev.pure _
  ·have hle:(cO y.natAbs).length≤(cO x.natAbs).length:=rL (by omega)
   obtain⟨r,h1,h2,h3,h4⟩:=aB1 dx dy hle (by omega) (by omega)
   have h5:=jX (decide (x<0)) h2 (by omega)
   have hc:decide ((if(x.natAbs:Int)<y.natAbs then(-1:Int) else if(y.natAbs:Int)<x.natAbs then 1 else 0)<0)=false:=by
    rw [if_neg (by omega)]
    split<;>rfl
   simp only [hc,bU]
   refine Ev.bind h4 (Ev.bind h5 ?_)
   rw [vG]
   have:(if decide (x<0)=true then -(((vD r).toNat:Nat):Int) else(((vD r).toNat:Nat):Int))=x+y:=by
    by_cases h:x<0
    ·rw [if_pos (by simpa using h)];omega
    ·rw [if_neg (by simpa using h)];omega
   rw [this]
   exact Ev.pure _
theorem aJ4 {o0:List Int} {x y:aH} {i:Nat} (ha:lW x.d) (hb:lW y.d) (hi:i<x.d.length) (hl:i+y.d.length≤o0.length) (hL:o0.length≤9000000000000):∀(t k:Nat) (out:List Int) (c:Int),k+t=y.d.length→aIc o0 y.d i (x.d.getD i 0) out c k→
  ∃out' c',aIc o0 y.d i (x.d.getD i 0) out' c' y.d.length∧∀K n,t<n→gG K x y (i:Int) n out c (k:Int)=some (out',c')
 |0,k,out,c,hk,hP=>by
  have:k=y.d.length:=by omega
  subst this
  refine⟨out,c,hP,fun K n hn=>?_⟩
  obtain⟨n',rfl,_⟩:=bD hn
  simp [gG]
 |t+1,k,out,c,hk,hP=>by
  have hf:=ha i
  obtain⟨g1,g2,g3,g4,g5,g6,g7⟩:=hP.step (by omega) hf.1 hf.2 hb
  have c0:=hP.c0
  have c1:=hP.c1
  have hlo:=hP.len
  have e0:=dK (xs:=x.d) (i:=i) hi
  have e1:decide ((k:Int)<(y.d.length:Int))=true:=dT (by omega)
  have e2:=dK (xs:=y.d) (i:=k) (by omega)
  have e3:aT ((k:Int)+1)=some ((k+1:Nat):Int):=ckN (m:=0) (by omega) (by omega)
  have e4:aT ((i:Int)+(k:Int))=some ((i+k:Nat):Int):=ckN (m:=0) (by omega) (by omega)
  have e5:=dK (xs:=out) (i:=i+k) (by omega)
  have e6:aT (x.d.getD i 0*y.d.getD k 0)=some (x.d.getD i 0*y.d.getD k 0):=k5 (by omega)
  have e7:aT (out.getD (i+k) 0+x.d.getD i 0*y.d.getD k 0)=some (out.getD (i+k) 0+x.d.getD i 0*y.d.getD k 0):=k5 (by omega)
  have e8:aT (out.getD (i+k) 0+x.d.getD i 0*y.d.getD k 0+c)=some (out.getD (i+k) 0+x.d.getD i 0*y.d.getD k 0+c):=k5 (by omega)
  have e9:zX (out.getD (i+k) 0+x.d.getD i 0*y.d.getD k 0+c) 1000000000=some ((out.getD (i+k) 0+x.d.getD i 0*y.d.getD k 0+c)/1000000000):=tF (by omega) (by omega) (by omega)
  have e10:yK (out.getD (i+k) 0+x.d.getD i 0*y.d.getD k 0+c) 1000000000=some ((out.getD (i+k) 0+x.d.getD i 0*y.d.getD k 0+c)%1000000000):=mT (by omega) (by omega)
  have e12:∀z,oO out ((i+k:Nat):Int) z=some (out.set (i+k) z):=fun z=>uA (by omega)
  obtain⟨o,d,h1,h2⟩:=aJ4 ha hb hi hl hL t (k+1) _ _ (by omega) g7
  refine⟨o,d,h1,fun K n hn=>?_⟩
  obtain⟨n',rfl,_⟩:=bD hn
  simp only [gG,e0,e1,e2,e3,e4,e5,e6,e7,e8,e9,e10,e12,cA,oB]
  exact h2 K n' (by omega)
theorem aJi {x y:aH} (ha:lW x.d) (hb:lW y.d) (hL:x.d.length+y.d.length≤9000000000000):∀(t i:Nat) (out:List Int),i+t=x.d.length→aEO x.d y.d out i→
  ∃out',aEO x.d y.d out' x.d.length∧wQ (fun K k=>gH K x y k out (i:Int)) out'
 |0,i,out,hi,hP=>by
  have:i=x.d.length:=by omega
  subst this
  refine⟨out,hP,wQ.of 1 fun K n hn=>?_⟩
  obtain⟨n',rfl,_⟩:=bD (n:=0) hn
  simp [gH]
 |t+1,i,out,hi,hP=>by
  have hlo:=hP.len
  obtain⟨o,c,h1,h2⟩:=aJ4 ha hb (by omega) (by omega) (by omega) y.d.length 0 out 0 (by omega) hP.row
  have hlo2:=h1.len
  obtain⟨r,h3,h4⟩:=aJi ha hb hL t (i+1) _ (by omega) (hP.next (by omega) h1)
  refine⟨r,h3,wQ.step ?_⟩
  have e1:decide ((i:Int)<(x.d.length:Int))=true:=dT (by omega)
  have e3:aT ((i:Int)+1)=some ((i+1:Nat):Int):=ckN (m:=0) (by omega) (by omega)
  have e4:aT ((i:Int)+(y.d.length:Int))=some ((i+y.d.length:Nat):Int):=ckN (m:=0) (by omega) (by omega)
  have e5:=dK (xs:=o) (i:=i+y.d.length) (by omega)
  have e6:oO o ((i+y.d.length:Nat):Int) c=some (o.set (i+y.d.length) c):=uA (by omega)
  simp only [gH,e1,cA]
  refine wQ.bind (x:=(o,c)) (f:=fun K=>gG K x y (i:Int) K out 0 0) ⟨y.d.length+1,fun K hK=>h2 K K (by omega)⟩ ?_
  simp only [qN,e3,e4,e5,e6,oB]
  exact h4
theorem aBp {x y:Int} (hL:dl x.natAbs+dl y.natAbs≤60000000000):Ev (fun K=>hY K (Z x) (Z y)) (Z (x*y)):=by
 have dx:=cM x.natAbs
 have dy:=cM y.natAbs
 have lx:(cO x.natAbs).length=dl x.natAbs:=rfl
 have ly:(cO y.natAbs).length=dl y.natAbs:=rfl
 obtain⟨r,h1,h2⟩:=aJi (x:=Z x) (y:=Z y) dx dy (by rw [sY,sY];omega) (Z x).d.length 0 _ (by omega) (aEO.start _ _)
 have e1:aT (((Z x).d.length:Int)+((Z y).d.length:Int))=some (((Z x).d.length+(Z y).d.length:Nat):Int):=ckN (m:=0) (by omega) (by rw [sY,sY];omega)
 have e2:yJ (((Z x).d.length+(Z y).d.length:Nat):Int) (0:Int)=some (List.replicate ((Z x).d.length+(Z y).d.length) 0):=aBV (by rw [sY,sY];omega)
 unfold hY
 simp only [e1,e2,oB]
 refine Ev.bind h2.ev ?_
 have h3:=jX ((Z x).neg != (Z y).neg) h1.ok (by rw [h1.len,sY,sY];omega)
 unfold qM
 refine Ev.bind h3 ?_
 have hv:vD r=x.natAbs*y.natAbs:=by
  have:=h1.val
  rw [←h1.len] at this
  have vx:=dW x.natAbs
  have vy:=dW y.natAbs
  unfold vD at *
  rw [this]
  show W (cO x.natAbs) 0 (cO x.natAbs).length*W (cO y.natAbs) 0 (cO y.natAbs).length=_
  rw [vx,vy]
 rw [vG,wI,wI,hv]
 have:(if(decide (x<0) != decide (y<0))=true then -((((x.natAbs:Int)*y.natAbs).toNat:Nat):Int) else((((x.natAbs:Int)*y.natAbs).toNat:Nat):Int))=x*y:=by
  have h0:0≤(x.natAbs:Int)*y.natAbs:=Int.mul_nonneg (by omega) (by omega)
  rw [Int.toNat_of_nonneg h0]
  exact aIb x y
 rw [this]
 exact Ev.pure _
end Go.Proofs.YtldhbdgfpjoamaaGreat
set_option linter.unusedVariables false
namespace Go.Proofs.YtldhbdgfpjoamaaGreat
theorem aCW {u:List Int} (hu:lW u) (h:u.length≤2):fY u=some (vD u):=by
 have h0:=hu 0
 have h1:=hu 1
 have d0:=wY u 0
 have d1:=wY u 1
 simp only [Int.natCast_zero,Int.natCast_one] at d0 d1
 have f1:aT (u.getD 1 0*1000000000)=some (u.getD 1 0*1000000000):=k5 (by omega)
 have f2:aT (u.getD 1 0*1000000000+u.getD 0 0)=some (u.getD 1 0*1000000000+u.getD 0 0):=k5 (by omega)
 simp only [fY,d0,d1,f1,f2,oB]
 have:vD u=W u 0 2:=(aBI h).symm
 rw [this,W2,Nat.zero_add]
 congr 1;omega
theorem aG5 (n:Nat):(Z (n:Int)).d=cO n:=by rw [Z_d];simp
theorem aGF (n k:Nat) (hk:k≤999999999) (hL:dl n≤40000000000):Ev (fun K=>iX K (cO n) (k:Int)) (cO (n*k)):=by
 unfold iX
 have h1:=jX false (cM n) (by show dl _≤_;omega)
 rw [dW,Int.toNat_natCast,oA] at h1
 refine Ev.bind h1 (Ev.bind (aBG (n:=(k:Int)) (by omega)) ?_)
 have hk2:dl k≤1:=aDt (by
  have:PB 1=1000000000:=by decide
  omega)
 refine Ev.bind (aBp (x:=(n:Int)) (y:=(k:Int)) (by simp;omega)) ?_
 have:(Z ((n:Int)*k)).d=cO (n*k):=by rw [←Int.natCast_mul,aG5]
 rw [this]
 exact Ev.pure _
theorem aTG (a b:Int):decide (w6 a b≤0)=decide (a≤b):=by
 unfold w6
 by_cases h:a<b
 ·rw [if_pos h,dT (by omega),dT (by omega)]
 ·rw [if_neg h]
  by_cases h2:b<a
  ·rw [if_pos h2,dF (by omega),dF (by omega)]
  ·rw [if_neg h2,dT (by omega),dT (by omega)]
theorem aSM (a b:Int):decide (w6 a b<0)=decide (a<b):=by
 unfold w6
 by_cases h:a<b
 ·rw [if_pos h,dT (by omega),dT h]
 ·rw [if_neg h,dF h]
  by_cases h2:b<a
  ·rw [if_pos h2];rfl
  ·rw [if_neg h2];rfl
theorem aEM {n R:Nat} (hn:0<n) (hL:dl n≤40000000000) (hR:dl R≤90000000000):∀(t lo hi:Nat),hi-lo≤t→lo≤hi→hi≤999999999→lo*n≤R→R<(hi+1)*n→wQ (fun K k=>bZ K (cO n) (Z (R:Int)) k (lo:Int) (hi:Int)) ((R/n:Nat):Int):=by
 intro t
 induction t with
 |zero=>
  intro lo hi ht hle hhi h1 h2
  have:lo=hi:=by omega
  subst this
  refine wQ.of 1 fun K k hk=>?_
  obtain⟨k',rfl,_⟩:=bD (n:=0) hk
  have:R/n=lo:=Nat.div_eq_of_lt_le h1 h2
  simp only [bZ,dF (show¬(lo:Int)<(lo:Int) by omega),bU,this]
 |succ t ih=>
  intro lo hi ht hle hhi h1 h2
  by_cases hlt:lo<hi
  ·refine wQ.step ?_
   have e1:aT ((lo:Int)+(hi:Int))=some ((lo+hi:Nat):Int):=ckN (m:=0) (by omega) (by omega)
   have e2:aT (((lo+hi:Nat):Int)+1)=some ((lo+hi+1:Nat):Int):=ckN (m:=0) (by omega) (by omega)
   have e3:zX ((lo+hi+1:Nat):Int) 2=some (((lo+hi+1)/2:Nat):Int):=by rw [tF (by omega) (by omega) (by omega)];congr 1
   obtain⟨mid,hm⟩:∃m,(lo+hi+1)/2=m:=⟨_,rfl⟩
   rw [hm] at e3
   have hm1:lo<mid:=by omega
   have hm2:mid≤hi:=by omega
   simp only [bZ,dT (show(lo:Int)<(hi:Int) by omega),cA,e1,e2,e3,oB]
   refine wQ.bind (aGF n mid (by omega) hL) ?_
   have hdm:dl (n*mid)≤9000000000000:=by
    have:=aGf n mid
    have:dl mid≤1:=aDt (by
     have:PB 1=1000000000:=by decide
     omega)
    omega
   rw [aG5]
   refine wQ.bind (wH (cM _) (cM _) (oN _) (oN _) hdm) ?_
   rw [dW,dW,aTG]
   by_cases hc:n*mid≤R
   ·have e4:decide (((n*mid:Nat):Int)≤(R:Int))=true:=dT (by omega)
    simp only [e4,cA]
    exact ih mid hi (by omega) hm2 hhi (by rw [Nat.mul_comm];exact hc) h2
   ·have e4:decide (((n*mid:Nat):Int)≤(R:Int))=false:=dF (by omega)
    have e5:aT ((mid:Int)-1)=some ((mid-1:Nat):Int):=ckN (m:=0) (by omega) (by omega)
    simp only [e4,bU,e5,oB]
    refine ih lo (mid-1) (by omega) (by omega) (by omega) h1 ?_
    rw [show mid-1+1=mid by omega,Nat.mul_comm]
    omega
  ·have:lo=hi:=by omega
   subst this
   refine wQ.of 1 fun K k hk=>?_
   obtain⟨k',rfl,_⟩:=bD (n:=0) hk
   have:R/n=lo:=Nat.div_eq_of_lt_le h1 h2
   simp only [bZ,dF (show¬(lo:Int)<(lo:Int) by omega),bU,this]
theorem aD7 {a:List Int} {n:Nat} (ha:lW a) (hn:0<n) (hL:dl n≤40000000000) (hM:a.length≤40000000000):∀(j:Nat) (q:List Int) (r:Nat),j≤a.length→q.length=a.length→Dr q j (a.length-j)→r<n→W a j (a.length-j)=n*W q j (a.length-j)+r→
  ∃q' r',q'.length=a.length∧lW q'∧r'<n∧vD a=n*vD q'+(r':Nat)∧wQ (fun K k=>bN K a (cO n) k q (cO r) ((j:Int)-1)) (q',cO r')
 |0,q,r,hj,hq,hD,hr,hI=>by
  refine⟨q,r,hq,Dr.ok (by rw [hq];simpa using hD),hr,?_,wQ.of 1 fun K k hk=>?_⟩
  ·simp only [Nat.sub_zero] at hI
   unfold vD
   rw [hq];exact hI
  ·obtain⟨k',rfl,_⟩:=bD (n:=0) hk
   simp [bN]
 |j+1,q,r,hj,hq,hD,hr,hI=>by
  have ha':=ha j
  have e0:((j+1:Nat):Int)-1=(j:Int):=by omega
  have e1:decide (0≤(j:Int))=true:=dT (by omega)
  have e2:=dK (xs:=a) (i:=j) (by omega)
  have e3:aT ((j:Int)-1)=some ((j:Int)-1):=k5 (by omega)
  have e4:=dK (xs:=q) (i:=j) (by omega)
  have e5:∀v,oO q (j:Int) v=some (q.set j v):=fun v=>uA (by omega)
  have hrl:dl r≤dl n:=rL (by omega)
  have hrl':(cO r).length=dl r:=rfl
  have e6:qR [a.getD j 0] (cO r)=some (a.getD j 0::cO r):=aCq (by simp;omega)
  obtain⟨R,hR⟩:∃R:Nat,(R:Int)=a.getD j 0+1000000000*r:=⟨(a.getD j 0+1000000000*r).toNat,by omega⟩
  have hd:lW (a.getD j 0::cO r):=(cM r).cons ha'.1 ha'.2
  have hv:vD (a.getD j 0::cO r)=R:=by
   rw [hR]
   have:vD (a.getD j 0::cO r)=a.getD j 0+1000000000*vD (cO r):=aKz _ _
   rw [this,dW]
  have h1:=jX false hd (by simp;omega)
  rw [hv,Int.toNat_natCast,oA] at h1
  have hRn:R<1000000000*n:=by
   have:(R:Int)<1000000000*n:=by omega
   omega
  have hRl:dl R≤dl n+1:=aDt (by
   have:=aGI n
   simp only [PB]
   omega)
  have hq1:R/n<1000000000:=Nat.div_lt_of_lt_mul (by rw [Nat.mul_comm];exact hRn)
  have hnm:=Nat.div_add_mod R n
  have hml:=Nat.mod_lt R hn
  have hdig:Ev (fun K=>(bif decide (R<n) then bZ K (cO n) (Z (R:Int)) K 0 0 else bZ K (cO n) (Z (R:Int)) K 0 999999999)) ((R/n:Nat):Int):=by
   by_cases hlt:R<n
   ·rw [dT hlt];simp only [cA]
    exact(aEM hn hL (by omega) 0 0 0 (by omega) (by omega) (by omega) (by omega) (by omega)).ev
   ·rw [dF hlt];simp only [bU]
    exact(aEM hn hL (by omega) 999999999 0 999999999 (by omega) (by omega) (by omega) (by omega) (by omega)).ev
  have h2:=aGF n (R/n) (by omega) hL
  have hle:n*(R/n)≤R:=by omega
  obtain⟨s,s1,s2,s3,s4⟩:=aB1 (cM R) (cM (n*(R/n))) (rL hle) (by rw [dW,dW];omega) (by show dl R≤_;omega)
  rw [dW,dW] at s3
  have h3:=jX false s2 (by rw [s1];show dl R≤_;omega)
  have hs:(vD s).toNat=R%n:=by omega
  rw [hs,oA] at h3
  have es:a.length-j=(a.length-(j+1))+1:=by omega
  obtain⟨q',r',g1,g2,g3,g4,g5⟩:=aD7 ha hn hL hM j (q.set j ((R/n:Nat):Int)) (R%n) (by omega) (by simpa using hq)
   (fun i hi=>by
    by_cases e:i=0
    ·subst e;rw [Nat.add_zero,eI (by omega)];exact⟨Int.natCast_nonneg _,Int.ofNat_lt.2 hq1⟩
    ·rw [fF (by omega)]
     have:=hD (i-1) (by omega)
     rwa [show j+1+(i-1)=j+i by omega] at this) hml (by
    rw [es,aDM,aDM,eI (by omega),z8 (.inl (by omega)),hI]
    have:(R:Int)=n*(R/n:Nat)+(R%n:Nat):=by rw [←Int.natCast_mul,←Int.natCast_add,hnm]
    grind)
  refine⟨q',r',g1,g2,g3,g4,wQ.step ?_⟩
  rw [e0]
  simp only [bN,e1,e2,e6,cA,oB]
  refine wQ.bind h1 ?_
  rw [aG5]
  refine wQ.bind (wH (cM _) (cM _) (oN _) (oN _) (by show dl R≤_;omega)) ?_
  rw [dW,dW,aSM]
  have cF:wQ (fun K k=>iI K (cO n) q (j:Int) (Z (R:Int)) (bN K a (cO n) k) ((R/n:Nat):Int)) (q',cO r'):=by
   simp only [iI]
   refine wQ.bind h2 ?_
   rw [aG5]
   refine wQ.bind s4 (wQ.bind h3 ?_)
   simp only [e3,e4,e5,oB,aG5]
   exact g5
  by_cases hlt:R<n
  ·have c1:decide ((R:Int)<(n:Int))=true:=dT (by omega)
   rw [dT hlt] at hdig
   simp only [cA] at hdig
   simp only [c1,cA,fJ]
   exact wQ.bind hdig cF
  ·have c1:decide ((R:Int)<(n:Int))=false:=dF (by omega)
   rw [dF hlt] at hdig
   simp only [bU] at hdig
   simp only [c1,bU,fJ]
   exact wQ.bind hdig cF
theorem aGN (K:Nat) (b:List Int) (x:aH):∀(k:Nat) (lo hi:Int),eZ K b x k lo hi=bZ K b x k lo hi
 |0,_,_=>rfl
 |k+1,lo,hi=>by simp only [eZ,bZ,aGN K b x k]
theorem aGl (K:Nat) (a b:List Int):∀(k:Nat) (q r:List Int) (j:Int),cZ K a b k q r j=bN K a b k q r j
 |0,_,_,_=>rfl
 |k+1,q,r,j=>by
  have ih:cZ K a b k=bN K a b k:=by funext q r j;exact aGl K a b k q r j
  simp only [cZ,bN,jS,fJ,mD,iI,aGN,ih]
theorem aII {m n:Nat} (hn:0<n) (hL:dl n≤40000000000) (hM:dl m≤40000000000):∃q,q.length≤dl m+2∧lW q∧vD q=(m/n:Nat)∧Ev (fun K=>iY K (cO m) (cO n)) (q,cO (m%n)):=by
 have dm:=cM m;have dn:=cM n
 have vm:=dW m;have vn:=dW n
 have lm:(cO m).length=dl m:=rfl
 have ln:(cO n).length=dl n:=rfl
 obtain⟨q,r,g1,g2,g3,g4,g5⟩:=aD7 (a:=cO m) dm hn hL (by omega) (cO m).length (List.replicate (cO m).length 0) 0 (Nat.le_refl _) (by simp) (aIT _ _ _) hn (by simp [W])
 rw [vm] at g4
 have hqn:=g2.nonneg
 have hmn:m=n*(vD q).toNat+r:=by
  have:(m:Int)=((n*(vD q).toNat+r:Nat):Int):=by rw [g4,Int.natCast_add,Int.natCast_mul,Int.toNat_of_nonneg hqn]
  omega
 have hq:(vD q).toNat=m/n:=by
  rw [hmn,Nat.mul_add_div hn,Nat.div_eq_of_lt g3,Nat.add_zero]
 have hr:r=m%n:=by rw [hmn,Nat.mul_add_mod,Nat.mod_eq_of_lt g3]
 subst hr
 rw [aAV] at g5
 have e1:yJ ((cO m).length:Int) (0:Int)=some (List.replicate (cO m).length 0):=aBV (by omega)
 have e2:aT (((cO m).length:Int)-1)=some (((cO m).length:Int)-1):=k5 (by omega)
 have core:Ev (fun K=>(yJ ((cO m).length:Int) (0:Int)).bind fun x23=>(aT (((cO m).length:Int)-1)).bind fun v28=>(bN K (cO m) (cO n) K x23 [] v28).bind fun(x46,x52)=>kJ K x46 x52) (q,cO (m%n)):=by
  simp only [e1,e2,oB]
  refine Ev.bind g5.ev ?_
  simp only [kJ]
  exact Ev.pure _
 by_cases h1:(cO m).length≤2
 ·by_cases h2:(cO n).length≤2
  ·have b1:=aAo h1
   have b2:=aAo h2
   have hd:=Nat.div_le_self m n
   have hm:=Nat.mod_le m n
   refine⟨cO (m/n),by have:=aKW m n;show dl _≤_;omega,cM _,dW _,?_⟩
   have c1:zX (m:Int) (n:Int)=some ((m/n:Nat):Int):=by rw [tF (by omega) (by omega) (by omega)];simp
   have c2:yK (m:Int) (n:Int)=some ((m%n:Nat):Int):=by rw [mT (by omega) (by omega)];simp
   unfold iY
   simp only [dT (show((cO m).length:Int)≤2 by omega),dT (show((cO n).length:Int)≤2 by omega),cA,aCW dm h1,aCW dn h2,vm,vn,c1,c2,oB]
   refine Ev.bind (aBG (by omega)) (Ev.bind (aBG (by omega)) ?_)
   rw [aG5,aG5]
   exact Ev.pure _
  ·refine⟨q,by omega,g2,by omega,?_⟩
   unfold iY
   simp only [dT (show((cO m).length:Int)≤2 by omega),dF (show¬((cO n).length:Int)≤2 by omega),cA,bU]
   exact core
 ·refine⟨q,by omega,g2,by omega,?_⟩
  unfold iY
  simp only [dF (show¬((cO m).length:Int)≤2 by omega),bU,aGl]
  exact core
theorem aE2 {x y a b:Int} (hy:y≠0) (h1:x=y*a+b) (h2:0≤b) (h3:b<y.natAbs):x/y=a∧x%y=b:=by
 have hm:x%y=b:=by
  rw [h1,Int.add_comm,Int.add_mul_emod_self_left]
  by_cases hy0:y<0
  ·have:b%y=b% -y:=by rw [Int.emod_neg]
   rw [this,Int.emod_eq_of_lt h2 (by omega)]
  ·exact Int.emod_eq_of_lt h2 (by omega)
 refine⟨?_,hm⟩
 have h4:=Int.mul_ediv_add_emod x y
 exact Int.eq_of_mul_eq_mul_left hy (by omega)
theorem aF7 {x y:Int} (hy:y≠0) (hx:dl x.natAbs≤30000000000) (hy2:dl y.natAbs≤30000000000):Ev (fun K=>kV K (Z x) (Z y)) (Z (x/y),Z (x%y)):=by
 have e1:(((cO y.natAbs).length:Int)==0)=false:=qF (by
  show(dl y.natAbs:Int)≠0
  have:dl y.natAbs≠0:=by rw [Ne,xX];omega
  omega)
 obtain⟨q,q1,q2,q3,q4⟩:=aII (m:=x.natAbs) (n:=y.natAbs) (by omega) (by omega) (by omega)
 have hdm:=aKW x.natAbs y.natAbs
 have hmm:=aID x.natAbs y.natAbs
 have hnd:=Nat.div_add_mod x.natAbs y.natAbs
 have hml:=Nat.mod_lt x.natAbs (show 0<y.natAbs by omega)
 have hln:(cO (x.natAbs%y.natAbs)).length=dl (x.natAbs%y.natAbs):=rfl
 have o1:=jX (decide (x<0) != decide (y<0)) q2 (by omega)
 have o2:=jX false (cM (x.natAbs%y.natAbs)) (by omega)
 rw [q3,Int.toNat_natCast,vG] at o1
 rw [dW,Int.toNat_natCast,oA] at o2
 unfold kV
 simp only [Z_d,wI,e1,bU]
 refine Ev.bind q4 (Ev.bind o1 (Ev.bind o2 ?_))
 have c1:(x.natAbs:Int)=(y.natAbs:Int)*((x.natAbs/y.natAbs:Nat):Int)+((x.natAbs%y.natAbs:Nat):Int):=by
  rw [←Int.natCast_mul,←Int.natCast_add,hnd]
 generalize x.natAbs/y.natAbs=Q at *
 generalize x.natAbs%y.natAbs=R at *
 by_cases hx0:x<0
 ·have e2:decide (x<0)=true:=dT hx0
  by_cases hR:R=0
  ·subst hR
   have e3:decide (0<((Z ((0:Nat):Int)).d.length:Int))=false:=by rw [Z_d,show((0:Nat):Int).natAbs=0 from rfl,aAV];rfl
   simp only [e2,e3,cA,bU]
   by_cases hy0:y<0
   ·rw [dT hy0]
    rw [show(y.natAbs:Int)=-y by omega,show(x.natAbs:Int)=-x by omega,Int.neg_mul] at c1
    obtain⟨u1,u2⟩:=aE2 (x:=x) (y:=y) (a:=Q) (b:=0) hy (by omega) (by omega) (by omega)
    rw [u1,u2]
    exact Ev.pure _
   ·rw [dF hy0]
    rw [show(y.natAbs:Int)=y by omega,show(x.natAbs:Int)=-x by omega] at c1
    obtain⟨u1,u2⟩:=aE2 (x:=x) (y:=y) (a:=-Q) (b:=0) hy (by rw [Int.mul_neg];omega) (by omega) (by omega)
    rw [u1,u2]
    exact Ev.pure _
  ·have hrl:dl R≠0:=by rw [Ne,xX];exact hR
   have e3:decide (0<((Z (R:Int)).d.length:Int))=true:=dT (by rw [sY];simp only [Int.natAbs_natCast];omega)
   simp only [e2,e3,cA]
   have o3:=jX (true != decide (y<0)) (u:=[1]) (lW.nil.cons (by omega) (by omega)) (by simp)
   rw [vD1,show(1:Int).toNat=1 from rfl,vG] at o3
   obtain⟨s,s1,s2,s3,s4⟩:=aB1 (cM y.natAbs) (cM R) (rL (by omega)) (by rw [dW,dW];omega) (by show dl _≤_;omega)
   rw [dW,dW] at s3
   have o4:=jX false s2 (by rw [s1];show dl _≤_;omega)
   rw [s3,oA] at o4
   refine Ev.bind o3 ?_
   have hsz:∀b:Bool,dl (if b=true then -(Q:Int) else(Q:Int)).natAbs≤40000000000:=fun b=>by
    cases b<;>simp<;>omega
   have hsz1:∀b:Bool,dl (if b=true then -((1:Nat):Int) else((1:Nat):Int)).natAbs≤40000000000:=fun b=>by
    have:dl 1≤1:=aDt (by decide)
    cases b<;>simp<;>omega
   refine Ev.bind (aJK (hsz _) (hsz1 _)) ?_
   rw [aG5]
   refine Ev.bind s4 (Ev.bind o4 ?_)
   by_cases hy0:y<0
   ·rw [dT hy0]
    rw [show(y.natAbs:Int)=-y by omega,show(x.natAbs:Int)=-x by omega,Int.neg_mul] at c1
    obtain⟨u1,u2⟩:=aE2 (x:=x) (y:=y) (a:=Q+1) (b:=y.natAbs-R) hy (by rw [Int.mul_add];omega) (by omega) (by omega)
    rw [u1,u2]
    have:(((y.natAbs:Int)-R).toNat:Int)=y.natAbs-R:=by omega
    rw [this]
    exact Ev.pure _
   ·rw [dF hy0]
    rw [show(y.natAbs:Int)=y by omega,show(x.natAbs:Int)=-x by omega] at c1
    obtain⟨u1,u2⟩:=aE2 (x:=x) (y:=y) (a:=-(Q+1)) (b:=y.natAbs-R) hy (by rw [Int.mul_neg,Int.mul_add];omega) (by omega) (by omega)
    rw [u1,u2]
    have:(((y.natAbs:Int)-R).toNat:Int)=y.natAbs-R:=by omega
    rw [this,Int.neg_add]
    exact Ev.pure _
 ·have e2:decide (x<0)=false:=dF hx0
  simp only [e2,bU]
  by_cases hy0:y<0
  ·rw [dT hy0]
   rw [show(y.natAbs:Int)=-y by omega,show(x.natAbs:Int)=x by omega,Int.neg_mul] at c1
   obtain⟨u1,u2⟩:=aE2 (x:=x) (y:=y) (a:=-Q) (b:=R) hy (by rw [Int.mul_neg];omega) (by omega) (by omega)
   rw [u1,u2]
   exact Ev.pure _
  ·rw [dF hy0]
   rw [show(y.natAbs:Int)=y by omega,show(x.natAbs:Int)=x by omega] at c1
   obtain⟨u1,u2⟩:=aE2 (x:=x) (y:=y) (a:=Q) (b:=R) hy (by omega) (by omega) (by omega)
   rw [u1,u2]
   exact Ev.pure _
theorem aOM (K:Nat):∀(n m k:Nat),n<k→gE K k (m:Int) (n:Int)=some ((Nat.gcd m n:Nat):Int):=by
 intro n
 induction n using Nat.strongRecOn with
 |_ n ih=>
  intro m k hk
  obtain⟨k',rfl,_⟩:=bD hk
  by_cases h:n=0
  ·subst h
   simp [gE]
  ·have e1:decide (0<(n:Int))=true:=dT (by omega)
   have e2:yK (m:Int) (n:Int)=some ((m%n:Nat):Int):=by rw [mT (by omega) (by omega)];simp
   simp only [gE,e1,cA,e2,oB]
   have hlt:=Nat.mod_lt m (show 0<n by omega)
   rw [ih (m%n) hlt n k' (by omega)]
   congr 2
   rw [Nat.gcd_comm m n,Nat.gcd_rec n m,Nat.gcd_comm]
theorem aOE:∀(n m:Nat),dl m≤30000000000→dl n≤30000000000→∃r,wQ (fun K k=>fC K k (Z (n:Int)) (Z (m:Int))) r∧(r=.ret (Z (Nat.gcd m n:Nat))∨r=.go (Z (Nat.gcd m n:Nat))):=by
 intro n
 induction n using Nat.strongRecOn with
 |_ n ih=>
  intro m hm hn
  by_cases h:n=0
  ·subst h
   refine⟨.go (Z m),wQ.of 1 fun K k hk=>?_,.inr (by simp)⟩
   obtain⟨k',rfl,_⟩:=bD (n:=0) hk
   have e:decide (0<((Z ((0:Nat):Int)).d.length:Int))=false:=by rw [sY,show((0:Nat):Int).natAbs=0 from rfl,yH];rfl
   simp only [fC,e,bU]
  ·have e1:decide (0<((cO n).length:Int))=true:=dT (by
    show(0:Int)<dl n
    have hl:dl n≠0:=by rw [Ne,xX];exact h
    omega)
   have hlt:=Nat.mod_lt m (show 0<n by omega)
   obtain⟨r,h1,h2⟩:=ih (m%n) hlt n hn (Nat.le_trans (aID _ _) hm)
   have hg:Nat.gcd n (m%n)=Nat.gcd m n:=by rw [Nat.gcd_comm m n,Nat.gcd_rec n m,Nat.gcd_comm]
   rw [hg] at h2
   have hdiv:=aF7 (x:=(m:Int)) (y:=(n:Int)) (by omega) (by simpa using hm) (by simpa using hn)
   rw [←Int.natCast_emod] at hdiv
   by_cases hs:dl m≤2∧dl n≤2
   ·refine⟨.ret (Z (Nat.gcd m n:Nat)),wQ.step ?_,.inl rfl⟩
    have b1:=aAo (n:=m) hs.1
    have b2:=aAo (n:=n) hs.2
    have hgl:Nat.gcd m n≤n:=Nat.gcd_le_right m (by omega)
    have f1:decide (((cO m).length:Int)≤2)=true:=dT (by have:(cO m).length=dl m:=rfl;omega)
    have f2:decide (((cO n).length:Int)≤2)=true:=dT (by have:(cO n).length=dl n:=rfl;omega)
    simp only [fC,e1,f1,f2,cA,aG5,aCW (cM m) hs.1,aCW (cM n) hs.2,dW,oB]
    refine wQ.bind (x:=((Nat.gcd m n:Nat):Int)) (f:=fun K=>gE K K (m:Int) (n:Int)) ⟨n+1,fun K hK=>aOM K n m K (by omega)⟩ ?_
    simp only [qK]
    exact wQ.bind (aBG (by omega)) (wQ.of 0 fun _ _ _=>rfl)
   ·refine⟨r,wQ.step ?_,h2⟩
    simp only [fC,e1,cA,aG5]
    by_cases hs1:dl m≤2
    ·have f1:decide (((cO m).length:Int)≤2)=true:=dT (by have:(cO m).length=dl m:=rfl;omega)
     have f2:decide (((cO n).length:Int)≤2)=false:=dF (by have:(cO n).length=dl n:=rfl;omega)
     simp only [f1,f2,cA,bU]
     exact wQ.bind hdiv h1
    ·have f1:decide (((cO m).length:Int)≤2)=false:=dF (by have:(cO m).length=dl m:=rfl;omega)
     simp only [f1,bU]
     exact wQ.bind hdiv h1
theorem aPF {x y:Int} (hx:dl x.natAbs≤30000000000) (hy:dl y.natAbs≤30000000000):Ev (fun K=>rD K (Z x) (Z y)) (Z (Int.gcd x y:Nat)):=by
 unfold rD
 have h1:=jX false (cM x.natAbs) (by show dl _≤_;omega)
 have h2:=jX false (cM y.natAbs) (by show dl _≤_;omega)
 rw [dW,oA,Int.toNat_natCast] at h1 h2
 simp only [Z_d]
 refine Ev.bind h1 (Ev.bind h2 ?_)
 obtain⟨r,h3,h4⟩:=aOE y.natAbs x.natAbs hx hy
 refine Ev.bind h3.ev ?_
 rcases h4 with rfl|rfl
 ·exact Ev.pure _
 ·exact Ev.pure _
theorem aIB {x y:Int} (hx:dl x.natAbs≤40000000000) (hy:dl y.natAbs≤40000000000):Ev (fun K=>nD K (Z x) (Z y)) (w6 x y):=by
 have dx:=cM x.natAbs;have dy:=cM y.natAbs
 have tx:=oN x.natAbs;have ty:=oN y.natAbs
 have lx:(cO x.natAbs).length=dl x.natAbs:=rfl
 have ly:(cO y.natAbs).length=dl y.natAbs:=rfl
 unfold nD
 simp only [Z_d,wI]
 by_cases h1:x<0
 ·by_cases h2:y<0
  ·simp only [dT h1,dT h2,bne_self_eq_false,bU,cA]
   have h:=wH dy dx ty tx (by omega)
   rw [dW,dW] at h
   have e:w6 (y.natAbs:Int) (x.natAbs:Int)=w6 x y:=by
    unfold w6
    by_cases a:x<y
    ·rw [if_pos a,if_pos (by omega)]
    ·rw [if_neg a,if_neg (by omega)]
     by_cases b:y<x
     ·rw [if_pos b,if_pos (by omega)]
     ·rw [if_neg b,if_neg (by omega)]
   rw [e] at h
   exact Ev.bind h (Ev.pure _)
  ·have e:(decide (x<0) != decide (y<0))=true:=by rw [dT h1,dF h2];rfl
   simp only [e,cA]
   simp only [dT h1,cA]
   unfold w6
   rw [if_pos (by omega)]
   exact Ev.pure _
 ·by_cases h2:y<0
  ·have e:(decide (x<0) != decide (y<0))=true:=by rw [dF h1,dT h2];rfl
   simp only [e,cA]
   simp only [dF h1,bU]
   unfold w6
   rw [if_neg (by omega),if_pos (by omega)]
   exact Ev.pure _
  ·simp only [dF h1,dF h2,bne_self_eq_false,bU]
   have h:=wH dx dy tx ty (by omega)
   rw [dW,dW,show(x.natAbs:Int)=x by omega,show(y.natAbs:Int)=y by omega] at h
   exact Ev.bind h (Ev.pure _)
theorem aNG {x:Int} (hx:dl x.natAbs≤40000000000):Ev (fun K=>p6 K (Z x)) x.sign:=by
 unfold p6
 have h:=aIB (x:=x) (y:=0) hx (by rw [show Int.natAbs 0=0 from rfl,yH];omega)
 have e:Z 0=(⟨false,[]⟩:aH):=by rw [show(0:Int)=((0:Nat):Int) from rfl,←oA];rfl
 rw [e] at h
 have e2:w6 x 0=x.sign:=by
  unfold w6
  by_cases a:x<0
  ·rw [if_pos a,Int.sign_eq_neg_one_of_neg a]
  ·rw [if_neg a]
   by_cases b:0<x
   ·rw [if_pos b,Int.sign_eq_one_of_pos b]
   ·have:x=0:=by omega
    subst this;rfl
 rw [e2] at h
 exact Ev.bind h (Ev.pure _)
theorem aJn (x y:aH) (hl:x.d.length=y.d.length) (hL:x.d.length≤9000000000000):∀(t i:Nat),i+t=x.d.length→∀K k,t<k→gF K x y k (i:Int)=some (if x.d.drop i=y.d.drop i then .go () else .ret false)
 |0,i,hi,K,k,hk=>by
  obtain⟨k',rfl,_⟩:=bD hk
  have:i=x.d.length:=by omega
  subst this
  simp only [gF,dF (show¬(x.d.length:Int)<(x.d.length:Int) by omega),bU]
  rw [if_pos]
  rw [List.drop_of_length_le (Nat.le_refl _),List.drop_of_length_le (by omega)]
 |t+1,i,hi,K,k,hk=>by
  obtain⟨k',rfl,_⟩:=bD hk
  have e1:decide ((i:Int)<(x.d.length:Int))=true:=dT (by omega)
  have e2:=dK (xs:=x.d) (i:=i) (by omega)
  have e3:=dK (xs:=y.d) (i:=i) (by omega)
  have e5:aT ((i:Int)+1)=some ((i+1:Nat):Int):=ckN (m:=0) (by omega) (by omega)
  have dx:x.d.drop i=x.d.getD i 0::x.d.drop (i+1):=by
   rw [List.drop_eq_getElem_cons (by omega)];simp [List.getD_eq_getElem?_getD,show i<x.d.length by omega]
  have dy:y.d.drop i=y.d.getD i 0::y.d.drop (i+1):=by
   rw [List.drop_eq_getElem_cons (by omega)];simp [List.getD_eq_getElem?_getD,show i<y.d.length by omega]
  by_cases h:x.d.getD i 0=y.d.getD i 0
  ·have ih:=aJn x y hl hL t (i+1) (by omega) K k' (by omega)
   simp only [gF,e1,e2,e3,e5,nF h,cA,bU,oB,ih]
   by_cases hd:x.d.drop (i+1)=y.d.drop (i+1)
   ·rw [if_pos hd,if_pos (by rw [dx,dy,h,hd])]
   ·rw [if_neg hd,if_neg (by rw [dx,dy];intro e;exact hd (List.cons.inj e).2)]
  ·simp only [gF,e1,e2,e3,nT h,cA,oB]
   rw [if_neg (by rw [dx,dy];intro e;exact h (List.cons.inj e).1)]
theorem aHP (x y:aH) (hL:x.d.length≤9000000000000):Ev (fun K=>nQ K x y) (decide (x=y)):=by
 refine⟨x.d.length+1,fun K hK=>?_⟩
 unfold nQ
 by_cases h1:x.neg=y.neg
 ·have e1:(x.neg != y.neg)=false:=by rw [h1];exact bne_self_eq_false _
  by_cases h2:x.d.length=y.d.length
  ·have e2:((x.d.length:Int) != (y.d.length:Int))=false:=nF (by omega)
   have h:=aJn x y h2 hL x.d.length 0 (by omega) K K (by omega)
   simp only [Int.natCast_zero,List.drop_zero] at h
   simp only [e1,e2,bU,h,oB]
   by_cases h3:x.d=y.d
   ·rw [if_pos h3,dT (by cases x;cases y;simp_all)];rfl
   ·rw [if_neg h3,dF (by intro e;subst e;exact h3 rfl)]
  ·have e2:((x.d.length:Int) != (y.d.length:Int))=true:=nT (by omega)
   simp only [e1,e2,bU,cA]
   rw [dF (by intro e;subst e;exact h2 rfl)]
 ·have e1:(x.neg != y.neg)=true:=bne_iff_ne.2 h1
  simp only [e1,cA]
  rw [dF (by intro e;subst e;exact h1 rfl)]
end Go.Proofs.YtldhbdgfpjoamaaGreat
set_option linter.unusedVariables false
set_option maxRecDepth 100000
namespace Go.Proofs.YtldhbdgfpjoamaaGreat
instance tyA32:TyA Tryz.prog 32 4:=mkA Tryz.underlying32 rfl (by kernel_rfl)
theorem tyB32:TyB Tryz.prog 32 [(0,2),(2,2)] (([pB false]++[pS cI ([]:List Int)])++([pB false]++[pS cI ([]:List Int)])):=mkB (z:=.agg #[.bool false,.slice none 0 0,.bool false,.slice none 0 0]) (by kernel_rfl) Tryz.underlying32 (by kernel_rfl) (fun M=>aX.app (aX.app (show aX M [pB false] [.bool false] from zU1) (show aX M [pS cI ([]:List Int)] [.slice none 0 0] from⟨dA cI M,trivial⟩)) (aX.app (show aX M [pB false] [.bool false] from zU1) (show aX M [pS cI ([]:List Int)] [.slice none 0 0] from⟨dA cI M,trivial⟩)))
instance tyF32_0:TyF Tryz.prog 32 0 0:=mkF (ft:=30) (k:=1) Tryz.underlying32 rfl rfl rfl (by kernel_rfl)
instance tyF32_1:TyF Tryz.prog 32 1 2:=mkF (ft:=30) (k:=1) Tryz.underlying32 rfl rfl rfl (by kernel_rfl)
instance tyZ32:TyZ Tryz.prog 32 (([pB false]++[pS cI ([]:List Int)])++([pB false]++[pS cI ([]:List Int)])):=mkZ (z:=.agg #[.bool false,.slice none 0 0,.bool false,.slice none 0 0]) (k:=4) (by kernel_rfl) rfl (fun M=>aX.app (aX.app (show aX M [pB false] [.bool false] from zU1) (show aX M [pS cI ([]:List Int)] [.slice none 0 0] from⟨dA cI M,trivial⟩)) (aX.app (show aX M [pB false] [.bool false] from zU1) (show aX M [pS cI ([]:List Int)] [.slice none 0 0] from⟨dA cI M,trivial⟩)))
def tA (a0:aH):Option Bool:=
 bif(!a0.neg) then(bif((a0.d.length:Int)==1) then((bL a0.d 0).bind fun v4=>some (v4==1)) else(some false)) else(some false)
theorem zP {a0:aH} {r:Bool} (hF:tA a0=some r):Ct Tryz.prog 121 [.va (aH.e a0)] (.vc (pB r)):=by
 unfold tA at hF
 refine aG Tryz.func121 rfl (by kernel_rfl) Tryz.ntmps121 rfl (fun w0 M0=>?_)
 refine aK (aR (cC rfl rfl trivial (fun b1=>?_)))
 refine go ?_ ?_
 refine eW hF (fun h2 hF=>?_) (fun h2 hF=>?_)
 ·refine go ?_ ?_
  refine eW hF (fun h3 hF=>?_) (fun h3 hF=>?_)
  ·obtain⟨v4,h5,hF⟩:=aZ hF
   exact cF
  exact cF
 exact cF
def oE (a0:aH) (a1:aH):Option cW:=
 bif a1.neg then((rV a0).bind fun v7=>(rV a1).bind fun v9=>(tA v9).bind fun v11=>bif v11 then(some (⟨v7,(⟨false,([]:List Int)⟩:aH)⟩:cW)) else(some (⟨v7,v9⟩:cW))) else((tA a1).bind fun v14=>bif v14 then(some (⟨a0,(⟨false,([]:List Int)⟩:aH)⟩:cW)) else(some (⟨a0,a1⟩:cW)))
theorem wC {a0:aH} {a1:aH} {r:cW} (hF:oE a0 a1=some r):Ct Tryz.prog 78 [.va (aH.e a0),.va (aH.e a1)] (.va (cW.e r)):=by
 unfold oE at hF
 refine aG Tryz.func78 rfl (by kernel_rfl) Tryz.ntmps78 rfl (fun w0 M0=>?_)
 refine aK (aR (cC rfl rfl trivial (fun b1=>?_)))
 refine cC rfl rfl trivial (fun b2=>?_)
 refine aO rfl tyZ32 (fun b3=>?_)
 refine go ?_ ?_
 refine aJ hF rfl (fun h4 hF=>?_) (fun h4 hF=>?_)
 ·obtain⟨v7,h8,hF⟩:=bF hF aAF
  obtain⟨v9,h10,hF⟩:=bF hF aAF
  refine dr [0,1,0,7,15,31] 4 2 ?_ (fun bs6 G5=>?_)
  obtain⟨v11,h12,hF⟩:=bF hF zP
  refine go ?_ ?_
  refine aJ hF rfl (fun h13 hF=>?_) (fun h13 hF=>?_)
  ·refine go ?_ ?_
   refine aQ (dY (is:=[0]) (xs:=[.tmp 13]) (ps:=[.va (aH.e v7)]) rfl tyB32 rfl rfl ⟨trivial,trivial⟩ rfl) zU1 ?_
   exact cF
  refine go ?_ ?_
  refine aQ (dY (is:=[0,1]) (xs:=[.tmp 15,.tmp 16]) (ps:=[.va (aH.e v7),.va (aH.e v9)]) rfl tyB32 rfl rfl ⟨trivial,trivial,trivial⟩ rfl) zU2 ?_
  exact cF
 obtain⟨v14,h15,hF⟩:=bF hF zP
 refine go ?_ ?_
 refine aJ hF rfl (fun h16 hF=>?_) (fun h16 hF=>?_)
 ·refine go ?_ ?_
  refine aQ (dY (is:=[0]) (xs:=[.tmp 13]) (ps:=[.va (aH.e a0)]) rfl tyB32 rfl rfl ⟨trivial,trivial⟩ rfl) zU1 ?_
  exact cF
 refine go ?_ ?_
 refine aQ (dY (is:=[0,1]) (xs:=[.tmp 15,.tmp 16]) (ps:=[.va (aH.e a0),.va (aH.e a1)]) rfl tyB32 rfl rfl ⟨trivial,trivial,trivial⟩ rfl) zU2 ?_
 exact cF
def jR (K:Nat) (a0:aH) (a1:aH):Option cW:=
 bif((a1.d.length:Int)==0) then(some (⟨(⟨false,([]:List Int)⟩:aH),(⟨false,([]:List Int)⟩:aH)⟩:cW)) else(bif((a0.d.length:Int)==0) then(some (⟨(⟨false,([]:List Int)⟩:aH),(⟨false,([]:List Int)⟩:aH)⟩:cW)) else((tQ K a0 a1).bind fun v6=>(tA v6).bind fun v9=>bif(!v9) then((tT K a0 v6).bind fun v12=>(tT K a1 v6).bind fun v14=>(oE v12.1 v14.1).bind fun v16=>some v16) else((oE a0 a1).bind fun v18=>some v18)))
theorem uP {K:Nat} {a0:aH} {a1:aH} {r:cW} (hF:jR K a0 a1=some r):Ct Tryz.prog 76 [.va (aH.e a0),.va (aH.e a1)] (.va (cW.e r)):=by
 unfold jR at hF
 refine aG Tryz.func76 rfl (by kernel_rfl) Tryz.ntmps76 rfl (fun w0 M0=>?_)
 refine aK (aR (cC rfl rfl trivial (fun b1=>?_)))
 refine cC rfl rfl trivial (fun b2=>?_)
 refine aO rfl tyZ32 (fun b3=>?_)
 refine go ?_ ?_
 refine eW hF (fun h4 hF=>?_) (fun h4 hF=>?_)
 ·refine go ?_ ?_
  refine oU rfl ?_
  refine aK (aR (aQ (dY (is:=[]) (xs:=[]) (ps:=[]) rfl tyB32 rfl rfl trivial rfl) trivial ?_))
  exact cF
 refine go ?_ ?_
 refine aJ hF rfl (fun h5 hF=>?_) (fun h5 hF=>?_)
 ·refine aK (aR (aQ (dY (is:=[]) (xs:=[]) (ps:=[]) rfl tyB32 rfl rfl trivial rfl) trivial ?_))
  exact cF
 obtain⟨v6,h7,hF⟩:=bF hF aCM
 refine go ?_ ?_
 refine aO rfl tyZ30 (fun b8=>?_)
 obtain⟨v9,h10,hF⟩:=bF hF zP
 refine go ?_ ?_
 refine aJ hF rfl (fun h11 hF=>?_) (fun h11 hF=>?_)
 ·obtain⟨v12,h13,hF⟩:=bF hF aCt
  obtain⟨v14,h15,hF⟩:=bF hF aCt
  obtain⟨v16,h17,hF⟩:=bF hF wC
  exact cF
 obtain⟨v18,h19,hF⟩:=bF hF wC
 exact cF
def aC5:Option aH:=
 (mG 1).bind fun v2=>some v2
theorem aK8 {r:aH} (hF:aC5=some r):Ct Tryz.prog 139 [] (.va (aH.e r)):=by
 unfold aC5 at hF
 refine aG Tryz.func139 rfl (by kernel_rfl) Tryz.ntmps139 rfl (fun w0 M0=>?_)
 refine aK (aR (aO rfl tyZ30 (fun b1=>?_)))
 obtain⟨v2,h3,hF⟩:=bF hF rT
 exact cF
def eS (a0:cW):Option aH:=
 bif((a0.q.d.length:Int)==0) then((aC5).bind fun v4=>some v4) else(some a0.q)
theorem lF {a0:cW} {r:aH} (hF:eS a0=some r):Ct Tryz.prog 77 [.va (cW.e a0)] (.va (aH.e r)):=by
 unfold eS at hF
 refine aG Tryz.func77 rfl (by kernel_rfl) Tryz.ntmps77 rfl (fun w0 M0=>?_)
 refine aK (aR (cC rfl rfl trivial (fun b1=>?_)))
 refine aO rfl tyZ30 (fun b2=>?_)
 refine go ?_ ?_
 refine aJ hF rfl (fun h3 hF=>?_) (fun h3 hF=>?_)
 ·obtain⟨v4,h5,hF⟩:=bF hF aK8
  exact cF
 exact cF
abbrev aNy:Nat:=36
def aBu (K:Nat) (a0:cW) (a1:cW):Option cW:=
 bif((a0.q.d.length:Int)==0) then(bif((a1.q.d.length:Int)==0) then((oD K a0.p a1.p).bind fun v6=>some (⟨v6,(⟨false,([]:List Int)⟩:aH)⟩:cW)) else(bif((a0.p.d.length:Int)==0) then(some a1) else(bif((a1.p.d.length:Int)==0) then(some a0) else((eS a0).bind fun v12=>(eS a1).bind fun v14=>(cP K a0.p v14).bind fun v18=>(cP K a1.p v12).bind fun v20=>(oD K v18 v20).bind fun v22=>(cP K v12 v14).bind fun v24=>(jR K v22 v24).bind fun v26=>some v26)))) else(bif((a0.p.d.length:Int)==0) then(some a1) else(bif((a1.p.d.length:Int)==0) then(some a0) else((eS a0).bind fun v32=>(eS a1).bind fun v34=>(cP K a0.p v34).bind fun v38=>(cP K a1.p v32).bind fun v40=>(oD K v38 v40).bind fun v42=>(cP K v32 v34).bind fun v44=>(jR K v42 v44).bind fun v46=>some v46)))
theorem aGT {K:Nat} {a0:cW} {a1:cW} {r:cW} (hF:aBu K a0 a1=some r):Ct Tryz.prog 36 [.va (cW.e a0),.va (cW.e a1)] (.va (cW.e r)):=by
 unfold aBu at hF
 refine aG Tryz.func36 rfl (by kernel_rfl) Tryz.ntmps36 rfl (fun w0 M0=>?_)
 refine aK (aR (cC rfl rfl trivial (fun b1=>?_)))
 refine cC rfl rfl trivial (fun b2=>?_)
 refine aO rfl tyZ32 (fun b3=>?_)
 refine go ?_ ?_
 refine aS (go ?_ ?_)
 refine eW hF (fun h4 hF=>?_) (fun h4 hF=>?_)
 ·refine go ?_ ?_
  refine aJ hF rfl (fun h5 hF=>?_) (fun h5 hF=>?_)
  ·obtain⟨v6,h7,hF⟩:=bF hF aAq
   refine go ?_ ?_
   refine aQ (dY (is:=[0]) (xs:=[.tmp 24]) (ps:=[.va (aH.e v6)]) rfl tyB32 rfl rfl ⟨trivial,trivial⟩ rfl) zU1 ?_
   exact cF
  refine go ?_ ?_
  refine aJ hF rfl (fun h8 hF=>?_) (fun h8 hF=>?_)
  ·exact cF
  refine go ?_ ?_
  refine aJ hF rfl (fun h9 hF=>?_) (fun h9 hF=>?_)
  ·exact cF
  obtain⟨v12,h13,hF⟩:=bF hF lF
  obtain⟨v14,h15,hF⟩:=bF hF lF
  refine go ?_ ?_
  refine dr [0,1,0,7,0,0,63,127] 6 2 ?_ (fun bs11 G10=>?_)
  obtain⟨v18,h19,hF⟩:=bF hF gP
  obtain⟨v20,h21,hF⟩:=bF hF gP
  obtain⟨v22,h23,hF⟩:=bF hF aAq
  obtain⟨v24,h25,hF⟩:=bF hF gP
  obtain⟨v26,h27,hF⟩:=bF hF uP
  refine go ?_ ?_
  refine dr [0,1,0,7,0,16,0,127,255,0,0,2047,4095,8191] 13 1 ?_ (fun bs17 G16=>?_)
  exact cF
 refine go ?_ ?_
 refine yC rfl ?_
 refine go ?_ ?_
 refine aJ hF rfl (fun h28 hF=>?_) (fun h28 hF=>?_)
 ·exact cF
 refine go ?_ ?_
 refine aJ hF rfl (fun h29 hF=>?_) (fun h29 hF=>?_)
 ·exact cF
 obtain⟨v32,h33,hF⟩:=bF hF lF
 obtain⟨v34,h35,hF⟩:=bF hF lF
 refine go ?_ ?_
 refine dr [0,1,0,7,0,0,63,127] 6 2 ?_ (fun bs31 G30=>?_)
 obtain⟨v38,h39,hF⟩:=bF hF gP
 obtain⟨v40,h41,hF⟩:=bF hF gP
 obtain⟨v42,h43,hF⟩:=bF hF aAq
 obtain⟨v44,h45,hF⟩:=bF hF gP
 obtain⟨v46,h47,hF⟩:=bF hF uP
 refine go ?_ ?_
 refine dr [0,1,0,7,0,16,0,127,255,0,0,2047,4095,8191] 13 1 ?_ (fun bs37 G36=>?_)
 exact cF
abbrev aM9:Nat:=37
def aBo (a0:cW):Option cW:=
 (rV a0.p).bind fun v5=>some (⟨v5,a0.q⟩:cW)
theorem aGr {a0:cW} {r:cW} (hF:aBo a0=some r):Ct Tryz.prog 37 [.va (cW.e a0)] (.va (cW.e r)):=by
 unfold aBo at hF
 refine aG Tryz.func37 rfl (by kernel_rfl) Tryz.ntmps37 rfl (fun w0 M0=>?_)
 refine aK (aR (cC rfl rfl trivial (fun b1=>?_)))
 refine aO rfl tyZ32 (fun b2=>?_)
 obtain⟨v5,h6,hF⟩:=bF hF aAF
 refine go ?_ ?_
 refine gT [0,1,3,0,8,31,63] 6 1 [.v (.vc (pP (some b1) 0)),.v (.va (aH.e a0.p)),.v (.va (aH.e v5)),.v (.vc (pP (some b1) 2)),.v (.va (aH.e a0.q)),.v (.va ((aH.e v5)++(aH.e a0.q)))] bC ⟨d0 (iU (off:=0) (k:=0) rfl tyF32_0) zU1,d0 (fX 1 2 rfl rfl rfl rfl (.agg tyA30)) zU1,d0 (cS rfl h6 rfl) zU1,d0 (iU (off:=0) (k:=2) rfl tyF32_1) zU1,d0 (fX 1 2 rfl rfl rfl rfl (.agg tyA30)) zU1,d0 (dY (is:=[0,1]) (xs:=[.tmp 5,.tmp 7]) (ps:=[.va (aH.e v5),.va (aH.e a0.q)]) rfl tyB32 rfl rfl ⟨trivial,trivial,trivial⟩ rfl) zU2,trivial⟩ (fun bs4 G3=>?_)
 exact cF
abbrev aMX:Nat:=10
def aC6 (K:Nat) (a0:cW) (a1:cW):Option cW:=
 (aBo a1).bind fun v6=>(aBu K a0 v6).bind fun v8=>some v8
theorem aLh {K:Nat} {a0:cW} {a1:cW} {r:cW} (hF:aC6 K a0 a1=some r):Ct Tryz.prog 10 [.va (cW.e a0),.va (cW.e a1)] (.va (cW.e r)):=by
 unfold aC6 at hF
 refine aG Tryz.func10 rfl (by kernel_rfl) Tryz.ntmps10 rfl (fun w0 M0=>?_)
 refine aK (aR (cC rfl rfl trivial (fun b1=>?_)))
 refine cC rfl rfl trivial (fun b2=>?_)
 refine aO rfl tyZ32 (fun b3=>?_)
 obtain⟨v6,h7,hF⟩:=bF hF aGr
 obtain⟨v8,h9,hF⟩:=bF hF aGT
 refine go ?_ ?_
 refine dr [0,0,2,7,15] 4 1 ?_ (fun bs5 G4=>?_)
 exact cF
abbrev aK9:Nat:=13
def y8 (a0:cW):Option Int:=
 (uY a0.p).bind fun v2=>some v2
theorem aCH {a0:cW} {r:Int} (hF:y8 a0=some r):Ct Tryz.prog 13 [.va (cW.e a0)] (.vc (pI .i64 r)):=by
 unfold y8 at hF
 refine aG Tryz.func13 rfl (by kernel_rfl) Tryz.ntmps13 rfl (fun w0 M0=>?_)
 refine aK (aR (cC rfl rfl trivial (fun b1=>?_)))
 obtain⟨v2,h3,hF⟩:=bF hF aFs
 exact cF
def oZ (a0:aH):Option Bool:=
 bif a0.neg then(some false) else(bif((a0.d.length:Int) != 1) then(some false) else((bL a0.d 0).bind fun v4=>some (v4==1)))
theorem aAx {a0:aH} {r:Bool} (hF:oZ a0=some r):Ct Tryz.prog 127 [.va (aH.e a0)] (.vc (pB r)):=by
 unfold oZ at hF
 refine aG Tryz.func127 rfl (by kernel_rfl) Tryz.ntmps127 rfl (fun w0 M0=>?_)
 refine aK (aR (cC rfl rfl trivial (fun b1=>?_)))
 refine go ?_ ?_
 refine eW hF (fun h2 hF=>?_) (fun h2 hF=>?_)
 ·refine go ?_ ?_
  refine oU rfl ?_
  exact cF
 refine go ?_ ?_
 refine aJ hF rfl (fun h3 hF=>?_) (fun h3 hF=>?_)
 ·exact cF
 obtain⟨v4,h5,hF⟩:=aZ hF
 exact cF
def iK (K:Nat) (a0:aH) (a1:aH):Option cW:=
 bif((a1.d.length:Int)==0) then(some (⟨(⟨false,([]:List Int)⟩:aH),(⟨false,([]:List Int)⟩:aH)⟩:cW)) else(bif((a0.d.length:Int)==0) then(some (⟨(⟨false,([]:List Int)⟩:aH),(⟨false,([]:List Int)⟩:aH)⟩:cW)) else((rD K a0 a1).bind fun v6=>(kV K a0 v6).bind fun v9=>(kV K a1 v6).bind fun v13=>bif v13.1.neg then((oP K v9.1).bind fun v18=>(oP K v13.1).bind fun v20=>(oZ v20).bind fun v22=>bif v22 then(some (⟨v18,(⟨false,([]:List Int)⟩:aH)⟩:cW)) else(some (⟨v18,v20⟩:cW))) else((oZ v13.1).bind fun v25=>bif v25 then(some (⟨v9.1,(⟨false,([]:List Int)⟩:aH)⟩:cW)) else(some (⟨v9.1,v13.1⟩:cW)))))
theorem vT {K:Nat} {a0:aH} {a1:aH} {r:cW} (hF:iK K a0 a1=some r):Ct Tryz.prog 73 [.va (aH.e a0),.va (aH.e a1)] (.va (cW.e r)):=by
 unfold iK at hF
 refine aG Tryz.func73 rfl (by kernel_rfl) Tryz.ntmps73 rfl (fun w0 M0=>?_)
 refine aK (aR (cC rfl rfl trivial (fun b1=>?_)))
 refine cC rfl rfl trivial (fun b2=>?_)
 refine aO rfl tyZ32 (fun b3=>?_)
 refine go ?_ ?_
 refine eW hF (fun h4 hF=>?_) (fun h4 hF=>?_)
 ·refine go ?_ ?_
  refine oU rfl ?_
  refine aK (aR (aQ (dY (is:=[]) (xs:=[]) (ps:=[]) rfl tyB32 rfl rfl trivial rfl) trivial ?_))
  exact cF
 refine go ?_ ?_
 refine aJ hF rfl (fun h5 hF=>?_) (fun h5 hF=>?_)
 ·refine aK (aR (aQ (dY (is:=[]) (xs:=[]) (ps:=[]) rfl tyB32 rfl rfl trivial rfl) trivial ?_))
  exact cF
 obtain⟨v6,h7,hF⟩:=bF hF aDN
 refine go ?_ ?_
 refine aO rfl tyZ30 (fun b8=>?_)
 obtain⟨v9,h10,hF⟩:=bF hF sZ
 refine go ?_ ?_
 refine aO rfl tyZ30 (fun b11=>?_)
 refine aO rfl tyZ30 (fun b12=>?_)
 obtain⟨v13,h14,hF⟩:=bF hF sZ
 refine go ?_ ?_
 refine aO rfl tyZ30 (fun b15=>?_)
 refine aO rfl tyZ30 (fun b16=>?_)
 refine go ?_ ?_
 refine aJ hF rfl (fun h17 hF=>?_) (fun h17 hF=>?_)
 ·obtain⟨v18,h19,hF⟩:=bF hF aAu
  obtain⟨v20,h21,hF⟩:=bF hF aAu
  obtain⟨v22,h23,hF⟩:=bF hF aAx
  refine go ?_ ?_
  refine aJ hF rfl (fun h24 hF=>?_) (fun h24 hF=>?_)
  ·refine go ?_ ?_
   refine aQ (dY (is:=[0]) (xs:=[.tmp 44]) (ps:=[.va (aH.e v18)]) rfl tyB32 rfl rfl ⟨trivial,trivial⟩ rfl) zU1 ?_
   exact cF
  refine go ?_ ?_
  refine aQ (dY (is:=[0,1]) (xs:=[.tmp 46,.tmp 47]) (ps:=[.va (aH.e v18),.va (aH.e v20)]) rfl tyB32 rfl rfl ⟨trivial,trivial,trivial⟩ rfl) zU2 ?_
  exact cF
 obtain⟨v25,h26,hF⟩:=bF hF aAx
 refine go ?_ ?_
 refine aJ hF rfl (fun h27 hF=>?_) (fun h27 hF=>?_)
 ·refine go ?_ ?_
  refine aQ (dY (is:=[0]) (xs:=[.tmp 44]) (ps:=[.va (aH.e v9.1)]) rfl tyB32 rfl rfl ⟨trivial,trivial⟩ rfl) zU1 ?_
  exact cF
 refine go ?_ ?_
 refine aQ (dY (is:=[0,1]) (xs:=[.tmp 46,.tmp 47]) (ps:=[.va (aH.e v9.1),.va (aH.e v13.1)]) rfl tyB32 rfl rfl ⟨trivial,trivial,trivial⟩ rfl) zU2 ?_
 exact cF
abbrev aEV:Nat:=24
def vA (K:Nat) (a0:Int) (a1:Int):Option cW:=
 (gU K a0).bind fun v2=>(gU K a1).bind fun v4=>(iK K v2 v4).bind fun v6=>some v6
theorem aEx {K:Nat} {a0:Int} {a1:Int} {r:cW} (hF:vA K a0 a1=some r):Ct Tryz.prog 24 [.vc (pI .i64 a0),.vc (pI .i64 a1)] (.va (cW.e r)):=by
 unfold vA at hF
 refine aG Tryz.func24 rfl (by kernel_rfl) Tryz.ntmps24 rfl (fun w0 M0=>?_)
 refine aK (aR (aO rfl tyZ32 (fun b1=>?_)))
 obtain⟨v2,h3,hF⟩:=bF hF l5
 obtain⟨v4,h5,hF⟩:=bF hF l5
 obtain⟨v6,h7,hF⟩:=bF hF vT
 exact cF
abbrev aNs:Nat:=26
def aBC (K:Nat) (a0:cW) (a1:cW):Option cW:=
 bif((a0.p.d.length:Int)==0) then(some (⟨(⟨false,([]:List Int)⟩:aH),(⟨false,([]:List Int)⟩:aH)⟩:cW)) else(bif((a1.p.d.length:Int)==0) then(some (⟨(⟨false,([]:List Int)⟩:aH),(⟨false,([]:List Int)⟩:aH)⟩:cW)) else(bif((a0.q.d.length:Int)==0) then(bif((a1.q.d.length:Int)==0) then((cP K a0.p a1.p).bind fun v8=>some (⟨v8,(⟨false,([]:List Int)⟩:aH)⟩:cW)) else((eS a1).bind fun v12=>(jR K a0.p v12).bind fun v14=>(eS a0).bind fun v16=>(jR K a1.p v16).bind fun v18=>(cP K v14.p v18.p).bind fun v22=>(eS v14).bind fun v24=>(eS v18).bind fun v26=>(cP K v24 v26).bind fun v28=>(oE v22 v28).bind fun v30=>some v30)) else((eS a1).bind fun v34=>(jR K a0.p v34).bind fun v36=>(eS a0).bind fun v38=>(jR K a1.p v38).bind fun v40=>(cP K v36.p v40.p).bind fun v44=>(eS v36).bind fun v46=>(eS v40).bind fun v48=>(cP K v46 v48).bind fun v50=>(oE v44 v50).bind fun v52=>some v52)))
theorem aFY {K:Nat} {a0:cW} {a1:cW} {r:cW} (hF:aBC K a0 a1=some r):Ct Tryz.prog 26 [.va (cW.e a0),.va (cW.e a1)] (.va (cW.e r)):=by
 unfold aBC at hF
 refine aG Tryz.func26 rfl (by kernel_rfl) Tryz.ntmps26 rfl (fun w0 M0=>?_)
 refine aK (aR (cC rfl rfl trivial (fun b1=>?_)))
 refine cC rfl rfl trivial (fun b2=>?_)
 refine aO rfl tyZ32 (fun b3=>?_)
 refine go ?_ ?_
 refine eW hF (fun h4 hF=>?_) (fun h4 hF=>?_)
 ·refine go ?_ ?_
  refine oU rfl ?_
  refine aK (aR (aQ (dY (is:=[]) (xs:=[]) (ps:=[]) rfl tyB32 rfl rfl trivial rfl) trivial ?_))
  exact cF
 refine go ?_ ?_
 refine aJ hF rfl (fun h5 hF=>?_) (fun h5 hF=>?_)
 ·refine aK (aR (aQ (dY (is:=[]) (xs:=[]) (ps:=[]) rfl tyB32 rfl rfl trivial rfl) trivial ?_))
  exact cF
 refine go ?_ ?_
 refine eW hF (fun h6 hF=>?_) (fun h6 hF=>?_)
 ·refine go ?_ ?_
  refine aJ hF rfl (fun h7 hF=>?_) (fun h7 hF=>?_)
  ·obtain⟨v8,h9,hF⟩:=bF hF gP
   refine go ?_ ?_
   refine aQ (dY (is:=[0]) (xs:=[.tmp 36]) (ps:=[.va (aH.e v8)]) rfl tyB32 rfl rfl ⟨trivial,trivial⟩ rfl) zU1 ?_
   exact cF
  obtain⟨v12,h13,hF⟩:=bF hF lF
  obtain⟨v14,h15,hF⟩:=bF hF uP
  obtain⟨v16,h17,hF⟩:=bF hF lF
  obtain⟨v18,h19,hF⟩:=bF hF uP
  refine go ?_ ?_
  refine dr [0,1,0,4,15,0,32,0,159,511,0,0,4095,8191] 12 2 ?_ (fun bs11 G10=>?_)
  obtain⟨v22,h23,hF⟩:=bF hF gP
  obtain⟨v24,h25,hF⟩:=bF hF lF
  obtain⟨v26,h27,hF⟩:=bF hF lF
  obtain⟨v28,h29,hF⟩:=bF hF gP
  obtain⟨v30,h31,hF⟩:=bF hF wC
  refine go ?_ ?_
  refine dr [0,1,0,4,15,0,63,0,255,511,1023,2047] 11 1 ?_ (fun bs21 G20=>?_)
  exact cF
 refine go ?_ ?_
 refine yC rfl ?_
 obtain⟨v34,h35,hF⟩:=bF hF lF
 obtain⟨v36,h37,hF⟩:=bF hF uP
 obtain⟨v38,h39,hF⟩:=bF hF lF
 obtain⟨v40,h41,hF⟩:=bF hF uP
 refine go ?_ ?_
 refine dr [0,1,0,4,15,0,32,0,159,511,0,0,4095,8191] 12 2 ?_ (fun bs33 G32=>?_)
 obtain⟨v44,h45,hF⟩:=bF hF gP
 obtain⟨v46,h47,hF⟩:=bF hF lF
 obtain⟨v48,h49,hF⟩:=bF hF lF
 obtain⟨v50,h51,hF⟩:=bF hF gP
 obtain⟨v52,h53,hF⟩:=bF hF wC
 refine go ?_ ?_
 refine dr [0,1,0,4,15,0,63,0,255,511,1023,2047] 11 1 ?_ (fun bs43 G42=>?_)
 exact cF
def tW (K:Nat):Option Bool:=
 some true
def gD (K:Nat) (a0:List Int) (a1:List Int):Nat→Int→Option (LR Bool Unit)
 |0,_=>none
 |k+1,x3=>bif(decide (x3<(a0.length:Int))) then((bL a0 x3).bind fun v9=>(bL a1 x3).bind fun v11=>bif(v9 != v11) then(some (.ret false)) else((aT (x3+1)).bind fun v14=>gD K a0 a1 k v14)) else(some (.go ()))
def p5 (K:Nat) (a0:List Int) (a1:List Int):Option Bool:=
 bif((a0.length:Int) != (a1.length:Int)) then(some false) else((gD K a0 a1 K 0).bind fun o=>match o with| .ret r=>some r| .go _=>tW K)
theorem aDk {K:Nat} {a0:List Int} {a1:List Int} {r:Bool} (hF:p5 K a0 a1=some r):Ct Tryz.prog 80 [.vc (pS cI a0),.vc (pS cI a1)] (.vc (pB r)):=by
 unfold p5 at hF
 refine aG Tryz.func80 rfl (by kernel_rfl) Tryz.ntmps80 rfl (fun w0 M0=>?_)
 refine go ?_ ?_
 refine aJ hF rfl (fun h1 hF=>?_) (fun h1 hF=>?_)
 ·exact cF
 refine go ?_ ?_
 refine aS (bV (fun H E=>tW K=some r∧H=[]∧E=[]) ?_ (fun Jj5=>?_))
 ·rintro _ _ ⟨hF,rfl,rfl⟩
  unfold tW at hF
  exact cF
 obtain⟨ol4,hL,hRl4⟩:=aZ hF
 refine gB (fun k a w=>∃(x3:Int),gD K a0 a1 k x3=some ol4∧hs _ [] [(0,.vc (pS cI a0)),(1,.vc (pS cI a1)),(12,.vc (pI .i64 (a0.length:Int))),(13,.vc (pI .i64 x3))] a w) K (fun a w ⟨_,hF,_⟩=>by cases hF) (fun k a w ⟨x3,hF,hh⟩=>gC ?_ hh) (fun a w hh=>⟨0,hL,gJ [] hh⟩)
 rw [gD.eq_2] at hF
 refine go ?_ ?_
 refine aJ hF rfl (fun h6 hF=>?_) (fun h6 hF=>?_)
 ·refine go ?_ ?_
  refine aS ?_
  obtain⟨v9,h10,v11,h12,hF⟩:=wP hF
  refine go ?_ ?_
  refine dr [0,0,3,7,0,0,48,112,255] 9 0 ?_ (fun bs8 G7=>?_)
  refine bT (aU (aJ hF rfl (fun h13 hF=>?_) (fun h13 hF=>?_)))
  ·exact cF
  obtain⟨v14,h15,hF⟩:=aZ hF
  refine go ?_ ?_
  exact aM (fun a w hh=>⟨v14,hF,gJ [] hh⟩)
 refine cR ?_
 obtain rfl:=pZ hF
 exact qZ Jj5 ⟨hRl4,rfl,rfl⟩ []
def u9 (K:Nat) (a0:aH) (a1:aH):Option Bool:=
 bif(a0.neg==a1.neg) then((p5 K a0.d a1.d).bind fun v4=>some v4) else(some false)
theorem aDq {K:Nat} {a0:aH} {a1:aH} {r:Bool} (hF:u9 K a0 a1=some r):Ct Tryz.prog 79 [.va (aH.e a0),.va (aH.e a1)] (.vc (pB r)):=by
 unfold u9 at hF
 refine aG Tryz.func79 rfl (by kernel_rfl) Tryz.ntmps79 rfl (fun w0 M0=>?_)
 refine aK (aR (cC rfl rfl trivial (fun b1=>?_)))
 refine cC rfl rfl trivial (fun b2=>?_)
 refine go ?_ ?_
 refine aQ (aNK rfl Tryz.underlying4) zU2 ?_
 refine lH ?_
 refine eW hF (fun h3 hF=>?_) (fun h3 hF=>?_)
 ·obtain⟨v4,h5,hF⟩:=bF hF aDk
  exact cF
 exact cF
abbrev aKJ:Nat:=27
def aBP (K:Nat) (a0:cW) (a1:cW):Option Bool:=
 (u9 K a0.p a1.p).bind fun v3=>bif v3 then((u9 K a0.q a1.q).bind fun v6=>some v6) else(some false)
theorem aKa {K:Nat} {a0:cW} {a1:cW} {r:Bool} (hF:aBP K a0 a1=some r):Ct Tryz.prog 27 [.va (cW.e a0),.va (cW.e a1)] (.vc (pB r)):=by
 unfold aBP at hF
 refine aG Tryz.func27 rfl (by kernel_rfl) Tryz.ntmps27 rfl (fun w0 M0=>?_)
 refine aK (aR (cC rfl rfl trivial (fun b1=>?_)))
 refine cC rfl rfl trivial (fun b2=>?_)
 refine go ?_ ?_
 refine aQ (bB (.inr rfl)) ⟨k_F _,trivial⟩ ?_
 obtain⟨v3,h4,hF⟩:=bF hF aDq
 refine go ?_ ?_
 refine aQ (lU (cs:=[]) (pre:=[.va (aH.e a0.p),.va (aH.e a1.p)]) rfl h4 rfl) ⟨rfl,rfl,rfl,trivial⟩ ?_
 refine lH ?_
 refine eW hF (fun h5 hF=>?_) (fun h5 hF=>?_)
 ·obtain⟨v6,h7,hF⟩:=bF hF aDq
  refine go ?_ ?_
  refine aAa (lU (cs:=[]) (pre:=[.va (aH.e a0.q),.va (aH.e a1.q)]) rfl h7 rfl) ⟨rfl,rfl,rfl,trivial⟩ ?_
  exact cF
 exact cF
abbrev aDX:Nat:=35
def tC (K:Nat) (a0:cW):Option Int:=
 (p6 K a0.p).bind fun v2=>some v2
theorem aDj {K:Nat} {a0:cW} {r:Int} (hF:tC K a0=some r):Ct Tryz.prog 35 [.va (cW.e a0)] (.vc (pI .i64 r)):=by
 unfold tC at hF
 refine aG Tryz.func35 rfl (by kernel_rfl) Tryz.ntmps35 rfl (fun w0 M0=>?_)
 refine aK (aR (cC rfl rfl trivial (fun b1=>?_)))
 obtain⟨v2,h3,hF⟩:=bF hF aDl
 exact cF
def iB (K:Nat) (a0:cW):Option aH:=
 bif((a0.q.d.length:Int)==0) then((gU K 1).bind fun v4=>some v4) else(some a0.q)
theorem nN {K:Nat} {a0:cW} {r:aH} (hF:iB K a0=some r):Ct Tryz.prog 110 [.va (cW.e a0)] (.va (aH.e r)):=by
 unfold iB at hF
 refine aG Tryz.func110 rfl (by kernel_rfl) Tryz.ntmps110 rfl (fun w0 M0=>?_)
 refine aK (aR (cC rfl rfl trivial (fun b1=>?_)))
 refine aO rfl tyZ30 (fun b2=>?_)
 refine go ?_ ?_
 refine aJ hF rfl (fun h3 hF=>?_) (fun h3 hF=>?_)
 ·obtain⟨v4,h5,hF⟩:=bF hF l5
  exact cF
 exact cF
abbrev aEc:Nat:=49
def uK (K:Nat) (a0:cW) (a1:cW):Option cW:=
 (iB K a1).bind fun v6=>(hY K a0.p v6).bind fun v8=>(iB K a0).bind fun v12=>(hY K a1.p v12).bind fun v14=>(oQ K v8 v14).bind fun v18=>(iB K a0).bind fun v20=>(iB K a1).bind fun v22=>(hY K v20 v22).bind fun v24=>(iK K v18 v24).bind fun v26=>some v26
theorem aDB {K:Nat} {a0:cW} {a1:cW} {r:cW} (hF:uK K a0 a1=some r):Ct Tryz.prog 49 [.va (cW.e a0),.va (cW.e a1)] (.va (cW.e r)):=by
 unfold uK at hF
 refine aG Tryz.func49 rfl (by kernel_rfl) Tryz.ntmps49 rfl (fun w0 M0=>?_)
 refine aK (aR (cC rfl rfl trivial (fun b1=>?_)))
 refine cC rfl rfl trivial (fun b2=>?_)
 refine aO rfl tyZ32 (fun b3=>?_)
 obtain⟨v6,h7,hF⟩:=bF hF nN
 obtain⟨v8,h9,hF⟩:=bF hF nU
 refine go ?_ ?_
 refine dr [0,1,0,4,15,0,63] 6 1 ?_ (fun bs5 G4=>?_)
 obtain⟨v12,h13,hF⟩:=bF hF nN
 obtain⟨v14,h15,hF⟩:=bF hF nU
 refine go ?_ ?_
 refine dr [0,1,0,4,15,0,63] 6 1 ?_ (fun bs11 G10=>?_)
 obtain⟨v18,h19,hF⟩:=bF hF aAC
 obtain⟨v20,h21,hF⟩:=bF hF nN
 obtain⟨v22,h23,hF⟩:=bF hF nN
 obtain⟨v24,h25,hF⟩:=bF hF nU
 obtain⟨v26,h27,hF⟩:=bF hF vT
 refine go ?_ ?_
 refine dr [0,0,3,0,15,0,63,127,255,511] 9 1 ?_ (fun bs17 G16=>?_)
 exact cF
abbrev aD8:Nat:=50
def uD (K:Nat) (a0:cW) (a1:cW):Option cW:=
 (hY K a0.p a1.p).bind fun v6=>(iB K a0).bind fun v8=>(iB K a1).bind fun v10=>(hY K v8 v10).bind fun v12=>(iK K v6 v12).bind fun v14=>some v14
theorem aDE {K:Nat} {a0:cW} {a1:cW} {r:cW} (hF:uD K a0 a1=some r):Ct Tryz.prog 50 [.va (cW.e a0),.va (cW.e a1)] (.va (cW.e r)):=by
 unfold uD at hF
 refine aG Tryz.func50 rfl (by kernel_rfl) Tryz.ntmps50 rfl (fun w0 M0=>?_)
 refine aK (aR (cC rfl rfl trivial (fun b1=>?_)))
 refine cC rfl rfl trivial (fun b2=>?_)
 refine aO rfl tyZ32 (fun b3=>?_)
 obtain⟨v6,h7,hF⟩:=bF hF nU
 obtain⟨v8,h9,hF⟩:=bF hF nN
 obtain⟨v10,h11,hF⟩:=bF hF nN
 obtain⟨v12,h13,hF⟩:=bF hF nU
 obtain⟨v14,h15,hF⟩:=bF hF vT
 refine go ?_ ?_
 refine dr [0,1,0,4,15,0,63,0,255,511,1023,2047] 11 1 ?_ (fun bs5 G4=>?_)
 exact cF
abbrev aJR:Nat:=63
def aAX (K:Nat) (a0:cW):Option Bool:=
 (pD K a0.p).bind fun v2=>bif(!v2) then(some false) else((pD K a0.q).bind fun v5=>bif(!v5) then(some false) else(bif a0.q.neg then(some false) else((tA a0.q).bind fun v9=>bif v9 then(some false) else(bif((a0.q.d.length:Int)==0) then(some true) else((tQ K a0.p a0.q).bind fun v13=>(tA v13).bind fun v15=>some v15)))))
theorem aIE {K:Nat} {a0:cW} {r:Bool} (hF:aAX K a0=some r):Ct Tryz.prog 63 [.va (cW.e a0)] (.vc (pB r)):=by
 unfold aAX at hF
 refine aG Tryz.func63 rfl (by kernel_rfl) Tryz.ntmps63 rfl (fun w0 M0=>?_)
 refine aK (aR (cC rfl rfl trivial (fun b1=>?_)))
 refine go ?_ ?_
 refine aS ?_
 obtain⟨v2,h3,hF⟩:=bF hF aBv
 refine go ?_ ?_
 refine eW hF (fun h4 hF=>?_) (fun h4 hF=>?_)
 ·refine go ?_ ?_
  refine oU rfl ?_
  exact cF
 obtain⟨v5,h6,hF⟩:=bF hF aBv
 refine go ?_ ?_
 refine eW hF (fun h7 hF=>?_) (fun h7 hF=>?_)
 ·refine go ?_ ?_
  refine oU rfl ?_
  exact cF
 refine go ?_ ?_
 refine eW hF (fun h8 hF=>?_) (fun h8 hF=>?_)
 ·refine go ?_ ?_
  refine oU rfl ?_
  exact cF
 obtain⟨v9,h10,hF⟩:=bF hF zP
 refine go ?_ ?_
 refine aJ hF rfl (fun h11 hF=>?_) (fun h11 hF=>?_)
 ·exact cF
 refine go ?_ ?_
 refine aJ hF rfl (fun h12 hF=>?_) (fun h12 hF=>?_)
 ·exact cF
 obtain⟨v13,h14,hF⟩:=bF hF aCM
 obtain⟨v15,h16,hF⟩:=bF hF zP
 exact cF
abbrev aDz:Nat:=84
def tB (K:Nat) (a0:cW) (a1:cW):Option Bool:=
 (nQ K a0.p a1.p).bind fun v3=>bif v3 then((nQ K a0.q a1.q).bind fun v6=>some v6) else(some false)
theorem aC9 {K:Nat} {a0:cW} {a1:cW} {r:Bool} (hF:tB K a0 a1=some r):Ct Tryz.prog 84 [.va (cW.e a0),.va (cW.e a1)] (.vc (pB r)):=by
 unfold tB at hF
 refine aG Tryz.func84 rfl (by kernel_rfl) Tryz.ntmps84 rfl (fun w0 M0=>?_)
 refine aK (aR (cC rfl rfl trivial (fun b1=>?_)))
 refine cC rfl rfl trivial (fun b2=>?_)
 obtain⟨v3,h4,hF⟩:=bF hF aAc
 refine go ?_ ?_
 refine eW hF (fun h5 hF=>?_) (fun h5 hF=>?_)
 ·obtain⟨v6,h7,hF⟩:=bF hF aAc
  exact cF
 exact cF
abbrev aOU:Nat:=89
def aEp (K:Nat) (a0:Int) (a1:Int):Option cW:=
 (mG a0).bind fun v2=>(mG a1).bind fun v4=>(jR K v2 v4).bind fun v6=>some v6
theorem aNA {K:Nat} {a0:Int} {a1:Int} {r:cW} (hF:aEp K a0 a1=some r):Ct Tryz.prog 89 [.vc (pI .i64 a0),.vc (pI .i64 a1)] (.va (cW.e r)):=by
 unfold aEp at hF
 refine aG Tryz.func89 rfl (by kernel_rfl) Tryz.ntmps89 rfl (fun w0 M0=>?_)
 refine aK (aR (aO rfl tyZ32 (fun b1=>?_)))
 obtain⟨v2,h3,hF⟩:=bF hF rT
 obtain⟨v4,h5,hF⟩:=bF hF rT
 obtain⟨v6,h7,hF⟩:=bF hF uP
 exact cF
abbrev aNi:Nat:=105
def aC2 (K:Nat) (a0:cW) (a1:cW):Option cW:=
 bif((a1.p.d.length:Int)==0) then(some (⟨(⟨false,([]:List Int)⟩:aH),(⟨false,([]:List Int)⟩:aH)⟩:cW)) else((eS a1).bind fun v7=>(oE v7 a1.p).bind fun v9=>(aBC K a0 v9).bind fun v11=>some v11)
theorem aLg {K:Nat} {a0:cW} {a1:cW} {r:cW} (hF:aC2 K a0 a1=some r):Ct Tryz.prog 105 [.va (cW.e a0),.va (cW.e a1)] (.va (cW.e r)):=by
 unfold aC2 at hF
 refine aG Tryz.func105 rfl (by kernel_rfl) Tryz.ntmps105 rfl (fun w0 M0=>?_)
 refine aK (aR (cC rfl rfl trivial (fun b1=>?_)))
 refine cC rfl rfl trivial (fun b2=>?_)
 refine aO rfl tyZ32 (fun b3=>?_)
 refine go ?_ ?_
 refine aJ hF rfl (fun h4 hF=>?_) (fun h4 hF=>?_)
 ·refine aK (aR (aQ (dY (is:=[]) (xs:=[]) (ps:=[]) rfl tyB32 rfl rfl trivial rfl) trivial ?_))
  exact cF
 obtain⟨v7,h8,hF⟩:=bF hF lF
 obtain⟨v9,h10,hF⟩:=bF hF wC
 obtain⟨v11,h12,hF⟩:=bF hF aFY
 refine go ?_ ?_
 refine dr [0,0,2,0,8,30,63,127] 7 1 ?_ (fun bs6 G5=>?_)
 exact cF
abbrev aG1:Nat:=123
def zH (K:Nat) (a0:cW) (a1:cW):Option Int:=
 (y8 a0).bind fun v5=>(y8 a1).bind fun v7=>bif(v5 != v7) then((mG v5).bind fun v10=>(mG v7).bind fun v12=>(mH K v10 v12).bind fun v14=>some v14) else(bif(v5==0) then((mG v5).bind fun v17=>(mG v7).bind fun v19=>(mH K v17 v19).bind fun v21=>some v21) else((eS a1).bind fun v25=>(cP K a0.p v25).bind fun v27=>(eS a0).bind fun v29=>(cP K a1.p v29).bind fun v31=>(mH K v27 v31).bind fun v33=>some v33))
theorem aGE {K:Nat} {a0:cW} {a1:cW} {r:Int} (hF:zH K a0 a1=some r):Ct Tryz.prog 123 [.va (cW.e a0),.va (cW.e a1)] (.vc (pI .i64 r)):=by
 unfold zH at hF
 refine aG Tryz.func123 rfl (by kernel_rfl) Tryz.ntmps123 rfl (fun w0 M0=>?_)
 refine aK (aR (cC rfl rfl trivial (fun b1=>?_)))
 refine cC rfl rfl trivial (fun b2=>?_)
 obtain⟨v5,h6,hF⟩:=bF hF aCH
 obtain⟨v7,h8,hF⟩:=bF hF aCH
 refine go ?_ ?_
 refine dr [0,1,0,7,15,31] 6 0 ?_ (fun bs4 G3=>?_)
 refine go ?_ ?_
 refine eW hF (fun h9 hF=>?_) (fun h9 hF=>?_)
 ·refine go ?_ ?_
  refine oU rfl ?_
  obtain⟨v10,h11,hF⟩:=bF hF rT
  obtain⟨v12,h13,hF⟩:=bF hF rT
  obtain⟨v14,h15,hF⟩:=bF hF wW
  exact cF
 refine go ?_ ?_
 refine aJ hF rfl (fun h16 hF=>?_) (fun h16 hF=>?_)
 ·obtain⟨v17,h18,hF⟩:=bF hF rT
  obtain⟨v19,h20,hF⟩:=bF hF rT
  obtain⟨v21,h22,hF⟩:=bF hF wW
  exact cF
 obtain⟨v25,h26,hF⟩:=bF hF lF
 obtain⟨v27,h28,hF⟩:=bF hF gP
 obtain⟨v29,h30,hF⟩:=bF hF lF
 obtain⟨v31,h32,hF⟩:=bF hF gP
 obtain⟨v33,h34,hF⟩:=bF hF wW
 refine go ?_ ?_
 refine dr [0,1,0,4,15,0,32,0,159,511,1023,2047] 12 0 ?_ (fun bs24 G23=>?_)
 refine bT (aU ?_)
 exact cF
end Go.Proofs.YtldhbdgfpjoamaaGreat
set_option linter.unusedVariables false
set_option maxRecDepth 100000
namespace Go.Proofs.YtldhbdgfpjoamaaGreat
end Go.Proofs.YtldhbdgfpjoamaaGreat
set_option linter.unusedVariables false
namespace Go.Proofs.YtldhbdgfpjoamaaGreat
open Rat
theorem Z0:Z 0=(⟨false,[]⟩:aH):=by rw [show(0:Int)=((0:Nat):Int) from rfl,←oA];rfl
theorem aMR {x y:Int} (h:Z x=Z y):x=y:=by
 have h1:decide (x<0)=decide (y<0):=congrArg aH.neg h
 have h2:cO x.natAbs=cO y.natAbs:=congrArg aH.d h
 have h3:(x.natAbs:Int)=y.natAbs:=by rw [←dW,←dW,h2]
 have h4:(x<0)↔(y<0):=by simpa using h1
 omega
theorem aEQ {x:Int}:(((Z x).d.length:Int)==0)=decide (x=0):=by
 rw [sY]
 by_cases h:x=0
 ·rw [dT h];subst h;rw [show Int.natAbs 0=0 from rfl,yH];rfl
 ·have:dl x.natAbs≠0:=by rw [Ne,xX];omega
  rw [dF h,qF (by omega)]
theorem dl1:dl 1=1:=by
 unfold dl;rw [aMx (by decide) (by decide)];rfl
theorem aCo (x:Int):tA (Z x)=some (decide (x=1)):=by
 unfold tA
 rw [wI]
 by_cases h:x<0
 ·rw [dT h,dF (p:=x=1) (by omega)];simp
 ·rw [dF h]
  simp only [Bool.not_false,cA,Z_d]
  by_cases h1:(cO x.natAbs).length=1
  ·obtain⟨a1,a2⟩:=aCL h1
   have e:=dK (xs:=cO x.natAbs) (i:=0) (by omega)
   rw [a1] at e
   simp only [Int.natCast_zero] at e
   rw [qT (by omega),cA,e,oB]
   by_cases h2:x=1
   ·rw [dT h2,qT (by omega)]
   ·rw [dF h2,qF (by omega)]
  ·rw [qF (by omega),bU,dF]
   intro e;subst e;exact h1 dl1
theorem aJb (x:Int):oZ (Z x)=some (decide (x=1)):=by
 unfold oZ
 rw [wI]
 by_cases h:x<0
 ·rw [dT h,dF (p:=x=1) (by omega)];rfl
 ·rw [dF h]
  simp only [bU,Z_d]
  by_cases h1:(cO x.natAbs).length=1
  ·obtain⟨a1,a2⟩:=aCL h1
   have e:=dK (xs:=cO x.natAbs) (i:=0) (by omega)
   rw [a1] at e
   simp only [Int.natCast_zero] at e
   rw [nF (by omega),bU,e,oB]
   by_cases h2:x=1
   ·rw [dT h2,qT (by omega)]
   ·rw [dF h2,qF (by omega)]
  ·rw [nT (by omega),cA,dF]
   intro e;subst e;exact h1 dl1
theorem aSY {p q:Int} (hq:0<q) (hg:Int.gcd p q=1):(p/. q).num=p∧(p/. q).den=q.natAbs:=by
 rw [Rat.num_divInt,Rat.den_divInt,Int.gcd_comm,hg,if_neg (by omega),Int.sign_eq_one_of_pos hq]
 simp
theorem aFS {p q:Int} (hq:0<q) (hg:Int.gcd p q=1):Qr (p/. q)=⟨Z p,if q=1 then⟨false,[]⟩ else Z q⟩:=by
 obtain⟨h1,h2⟩:=aSY hq hg
 rw [aE8,h1,h2]
 by_cases h:q=1
 ·rw [if_pos h,if_pos (by omega)]
 ·rw [if_neg h,if_neg (by omega),show(q.natAbs:Int)=q by omega]
theorem aBH {p q:Int} (hq:q≠0) (hg:Int.gcd p q=1):oE (Z p) (Z q)=some (Qr (p/. q)):=by
 unfold oE
 rw [wI]
 by_cases h:q<0
 ·rw [dT h]
  simp only [cA,aLU,oB,aCo]
  rw [←Rat.neg_divInt_neg,aFS (by omega) (by simpa using hg)]
  by_cases h1:-q=1
  ·rw [dT h1,if_pos h1];rfl
  ·rw [dF h1,if_neg h1];rfl
 ·rw [dF h]
  simp only [bU,aCo,oB]
  rw [aFS (by omega) hg]
  by_cases h1:q=1
  ·rw [dT h1,if_pos h1];rfl
  ·rw [dF h1,if_neg h1];rfl
theorem aH1 {p q:Int} (hq:q≠0):∃a b:Int,∃g:Nat,Int.gcd p q=g∧0<g∧p=a*g∧q=b*g∧Int.gcd a b=1∧b≠0∧p/(g:Int)=a∧q/(g:Int)=b:=by
 have hg:0<Int.gcd p q:=Int.gcd_pos_of_ne_zero_right p hq
 obtain⟨a,ha⟩:=Int.gcd_dvd_left (a:=p) (b:=q)
 obtain⟨b,hb⟩:=Int.gcd_dvd_right (a:=p) (b:=q)
 have hgz:((Int.gcd p q:Nat):Int)≠0:=by omega
 have q1:p/((Int.gcd p q:Nat):Int)=a:=by
  have:((Int.gcd p q:Nat):Int)*a/((Int.gcd p q:Nat):Int)=a:=Int.mul_ediv_cancel_left _ hgz
  rwa [←ha] at this
 have q2:q/((Int.gcd p q:Nat):Int)=b:=by
  have:((Int.gcd p q:Nat):Int)*b/((Int.gcd p q:Nat):Int)=b:=Int.mul_ediv_cancel_left _ hgz
  rwa [←hb] at this
 refine⟨a,b,Int.gcd p q,rfl,hg,by rw [Int.mul_comm];exact ha,by rw [Int.mul_comm];exact hb,?_,?_,q1,q2⟩
 ·have h:=Int.gcd_mul_left (Int.gcd p q) a b
  rw [←ha,←hb] at h
  simp only [Int.natAbs_natCast] at h
  have:Int.gcd p q*1=Int.gcd p q*Int.gcd a b:=by omega
  exact(Nat.eq_of_mul_eq_mul_left hg this).symm
 ·intro e;rw [e] at hb;simp at hb;exact hq hb
theorem aBO:Qr 0=⟨⟨false,[]⟩,⟨false,[]⟩⟩:=Qr0
theorem aPE {p q:Int} (hq:q≠0):dl (Int.gcd p q)≤dl q.natAbs:=rL (Nat.le_of_dvd (by omega) (Nat.gcd_dvd_right _ _))
theorem aEj {p q:Int} (hq:q≠0) (hp1:dl p.natAbs≤20000000000) (hq1:dl q.natAbs≤20000000000):Ev (fun K=>jR K (Z p) (Z q)) (Qr (p/. q)):=by
 unfold jR
 simp only [aEQ,dF hq,bU]
 by_cases hp:p=0
 ·subst hp
  simp only [Rat.zero_divInt,aBO]
  exact Ev.pure _
 ·simp only [dF hp,bU]
  obtain⟨a,b,g,h1,h2,h3,h4,h5,h6,h7,h8⟩:=aH1 (p:=p) hq
  have hgl:=aPE (p:=p) hq
  rw [h1] at hgl
  refine Ev.bind (aMs (by omega) (by omega)) ?_
  rw [h1]
  simp only [aCo,oB]
  have he:p/. q=a/. b:=by
   rw [h3,h4]
   exact Rat.divInt_mul_right (by omega)
  by_cases hg:g=1
  ·have e:(!decide ((g:Int)=1))=false:=by rw [dT (by omega)];rfl
   simp only [e,bU]
   rw [aBH hq (by rw [h1];exact hg)]
   exact Ev.pure _
  ·have e:(!decide ((g:Int)=1))=true:=by rw [dF (by omega)];rfl
   simp only [e,cA]
   refine Ev.bind (aMD (by omega) (by omega) (by simp;omega)) (Ev.bind (aMD (by omega) (by omega) (by simp;omega)) ?_)
   simp only [h7,h8]
   rw [aBH h6 h5,he]
   exact Ev.pure _
theorem aNp (p:Int):Ev (fun K=>jR K (Z p) (Z 0)) (Qr 0):=by
 unfold jR
 simp only [aEQ,aBO]
 exact Ev.pure _
theorem aEX {p q:Int} (hq:q≠0) (hp1:dl p.natAbs≤20000000000) (hq1:dl q.natAbs≤20000000000):Ev (fun K=>iK K (Z p) (Z q)) (Qr (p/. q)):=by
 unfold iK
 simp only [aEQ,dF hq,bU]
 by_cases hp:p=0
 ·subst hp
  simp only [Rat.zero_divInt,aBO]
  exact Ev.pure _
 ·simp only [dF hp,bU]
  obtain⟨a,b,g,h1,h2,h3,h4,h5,h6,h7,h8⟩:=aH1 (p:=p) hq
  have hgl:=aPE (p:=p) hq
  rw [h1] at hgl
  have hal:dl a.natAbs≤dl p.natAbs:=rL (by
   rw [h3,Int.natAbs_mul,Int.natAbs_natCast]
   exact Nat.le_mul_of_pos_right _ h2)
  have hbl:dl b.natAbs≤dl q.natAbs:=rL (by
   rw [h4,Int.natAbs_mul,Int.natAbs_natCast]
   exact Nat.le_mul_of_pos_right _ h2)
  refine Ev.bind (aPF (by omega) (by omega)) ?_
  rw [h1]
  have he:p/. q=a/. b:=by
   rw [h3,h4]
   exact Rat.divInt_mul_right (by omega)
  refine Ev.bind (aF7 (by omega) (by omega) (by simp;omega)) (Ev.bind (aF7 (by omega) (by omega) (by simp;omega)) ?_)
  simp only [h7,h8,wI]
  rw [he]
  by_cases hb:b<0
  ·simp only [dT hb,cA]
   refine Ev.bind (aJh a (by omega)) (Ev.bind (aJh b (by omega)) ?_)
   simp only [aJb,oB]
   rw [←Rat.neg_divInt_neg,aFS (by omega) (by simpa using h5)]
   by_cases h9:-b=1
   ·simp only [dT h9,if_pos h9,cA];exact Ev.pure _
   ·simp only [dF h9,if_neg h9,bU];exact Ev.pure _
  ·simp only [dF hb,bU,aJb,oB]
   rw [aFS (by omega) h5]
   by_cases h9:b=1
   ·simp only [dT h9,if_pos h9,cA];exact Ev.pure _
   ·simp only [dF h9,if_neg h9,bU];exact Ev.pure _
theorem aKF (p:Int):Ev (fun K=>iK K (Z p) (Z 0)) (Qr 0):=by
 unfold iK
 simp only [aEQ,aBO]
 exact Ev.pure _
theorem Qp (a:Rat):(Qr a).p=Z a.num:=by rw [aE8]
theorem Qq (a:Rat):(Qr a).q=if a.den=1 then⟨false,[]⟩ else Z a.den:=by rw [aE8]
theorem aIW (a:Rat):(((Qr a).q.d.length:Int)==0)=decide (a.den=1):=by
 rw [Qq]
 by_cases h:a.den=1
 ·rw [if_pos h,dT h];rfl
 ·rw [if_neg h,dF h,aEQ,dF]
  have:=a.den_nz
  omega
theorem aTq {a b:Rat} (h:Qr a=Qr b):a=b:=by
 have h1:Z a.num=Z b.num:=by rw [←Qp,←Qp,h]
 have h2:=congrArg cW.q h
 rw [Qq,Qq] at h2
 have h3:=aMR h1
 have h4:a.den=b.den:=by
  by_cases ha:a.den=1
  ·by_cases hb:b.den=1
   ·omega
   ·rw [if_pos ha,if_neg hb,←Z0] at h2
    have:=aMR h2
    have:=b.den_nz
    omega
  ·by_cases hb:b.den=1
   ·rw [if_neg ha,if_pos hb,←Z0] at h2
    have:=aMR h2
    have:=a.den_nz
    omega
   ·rw [if_neg ha,if_neg hb] at h2
    have:=aMR h2
    omega
 exact Rat.ext h3 h4
theorem aEa (a:Rat):eS (Qr a)=some (Z a.den):=by
 unfold eS aC5
 rw [aIW]
 by_cases h:a.den=1
 ·rw [dT h,cA,aGR (by omega),oB,oB,h];rfl
 ·rw [dF h,bU,Qq,if_neg h]
theorem aBs (a:Rat):Ev (fun K=>iB K (Qr a)) (Z a.den):=by
 unfold iB
 rw [aIW]
 by_cases h:a.den=1
 ·simp only [dT h,cA]
  rw [h]
  exact Ev.bind (aBG (by omega)) (Ev.pure _)
 ·simp only [dF h,bU]
  rw [Qq,if_neg h]
  exact Ev.pure _
theorem zJ {a:Rat} (h:qs a=true):dl a.num.natAbs≤40000000∧dl a.den≤40000000:=by
 unfold qs at h
 simp only [Bool.and_eq_true,Nat.ble_eq] at h
 have h1:=aN1 a.num.natAbs
 have h2:=aN1 a.den
 omega
theorem aIf (a b:Rat):a+b=(a.num*b.den+b.num*a.den)/. (a.den*b.den):=by
 have ha:=a.den_nz
 have hb:=b.den_nz
 conv=>lhs;rw [←Rat.num_divInt_den a,←Rat.num_divInt_den b]
 exact Rat.divInt_add_divInt _ _ (by omega) (by omega)
theorem aGj (a b:Rat):a*b=(a.num*b.num)/. (a.den*b.den):=by
 conv=>lhs;rw [←Rat.num_divInt_den a,←Rat.num_divInt_den b]
 exact Rat.divInt_mul_divInt _ _
theorem aOu (n:Int):Qr (n/. 1)=⟨Z n,⟨false,[]⟩⟩:=by
 rw [aFS (by omega) (by simp)];rfl
theorem aC4 {a b:Rat} (ha:qs a=true) (hb:qs b=true):dl (a.num*b.den).natAbs≤80000000∧dl (b.num*a.den).natAbs≤80000000∧dl (a.num*b.den+b.num*a.den).natAbs≤80000001∧dl ((a.den:Int)*b.den).natAbs≤80000000∧dl (a.num*b.num).natAbs≤80000000∧((a.den:Int)*b.den)≠0:=by
 obtain⟨a1,a2⟩:=zJ ha
 obtain⟨b1,b2⟩:=zJ hb
 have m1:=aGf a.num.natAbs b.den
 have m2:=aGf b.num.natAbs a.den
 have m3:=aGf a.den b.den
 have m4:=aGf a.num.natAbs b.num.natAbs
 have e1:(a.num*b.den).natAbs=a.num.natAbs*b.den:=by rw [Int.natAbs_mul,Int.natAbs_natCast]
 have e2:(b.num*a.den).natAbs=b.num.natAbs*a.den:=by rw [Int.natAbs_mul,Int.natAbs_natCast]
 have e3:((a.den:Int)*b.den).natAbs=a.den*b.den:=by rw [Int.natAbs_mul,Int.natAbs_natCast,Int.natAbs_natCast]
 have e4:(a.num*b.num).natAbs=a.num.natAbs*b.num.natAbs:=Int.natAbs_mul _ _
 have hs:dl (a.num*b.den+b.num*a.den).natAbs≤80000001:=by
  have h1:dl ((a.num*b.den).natAbs+(b.num*a.den).natAbs)≤80000000+1:=aTv (by rw [e1];omega) (by rw [e2];omega)
  exact Nat.le_trans (rL (Int.natAbs_add_le _ _)) h1
 refine⟨by rw [e1];omega,by rw [e2];omega,hs,by rw [e3];omega,by rw [e4];omega,?_⟩
 have h1:=a.den_nz
 have h2:=b.den_nz
 exact Int.mul_ne_zero (by omega) (by omega)
theorem aMI {a b:Rat} (ha:qs a=true) (hb:qs b=true):Ev (fun K=>aBu K (Qr a) (Qr b)) (Qr (a+b)):=by
 obtain⟨a1,a2⟩:=zJ ha
 obtain⟨b1,b2⟩:=zJ hb
 obtain⟨c1,c2,c3,c4,c5,c6⟩:=aC4 ha hb
 have key:Ev (fun K=>(eS (Qr a)).bind fun v12=>(eS (Qr b)).bind fun v14=>(cP K (Z a.num) v14).bind fun v18=>(cP K (Z b.num) v12).bind fun v20=>(oD K v18 v20).bind fun v22=>(cP K v12 v14).bind fun v24=>(jR K v22 v24).bind fun v26=>some v26) (Qr (a+b)):=by
  simp only [aEa,oB]
  refine Ev.bind (aAW (by simp;omega)) (Ev.bind (aAW (by simp;omega)) (Ev.bind (aLA (by omega) (by omega)) (Ev.bind (aAW (by simp;omega)) (Ev.bind (aEj c6 (by omega) (by omega)) ?_))))
  rw [←aIf]
  exact Ev.pure _
 have key2:Ev (fun K=>bif decide (a.num=0) then some (Qr b) else bif decide (b.num=0) then some (Qr a) else(eS (Qr a)).bind fun v12=>(eS (Qr b)).bind fun v14=>(cP K (Z a.num) v14).bind fun v18=>(cP K (Z b.num) v12).bind fun v20=>(oD K v18 v20).bind fun v22=>(cP K v12 v14).bind fun v24=>(jR K v22 v24).bind fun v26=>some v26) (Qr (a+b)):=by
  by_cases h1:a.num=0
  ·simp only [dT h1,cA]
   rw [Rat.num_eq_zero.1 h1,Rat.zero_add]
   exact Ev.pure _
  ·simp only [dF h1,bU]
   by_cases h2:b.num=0
   ·simp only [dT h2,cA]
    rw [Rat.num_eq_zero.1 h2,Rat.add_zero]
    exact Ev.pure _
   ·simp only [dF h2,bU]
    exact key
 unfold aBu
 simp only [aIW,Qp,aEQ]
 by_cases h1:a.den=1
 ·simp only [dT h1,cA]
  by_cases h2:b.den=1
  ·simp only [dT h2,cA]
   refine Ev.bind (aLA (by omega) (by omega)) ?_
   have:a+b=(a.num+b.num)/. 1:=by
    rw [aIf,h1,h2];simp
   rw [this,aOu]
   exact Ev.pure _
  ·simp only [dF h2,bU]
   exact key2
 ·simp only [dF h1,bU]
  exact key2
theorem aIO {n:Int} {d e:Nat} (h:(n/. (d:Int)).den=e) (hd:d≠0):e∣d:=by
 rw [Rat.den_divInt,if_neg (by omega)] at h
 rw [←h]
 simp only [Int.natAbs_natCast]
 exact Nat.div_dvd_of_dvd (by rw [Int.gcd_comm];exact Nat.gcd_dvd_right _ _)
theorem aIz {n:Int} {d:Nat} (hd:d≠0):(n/. (d:Int)).num.natAbs∣n.natAbs:=by
 rw [Rat.num_divInt,Int.sign_eq_one_of_pos (by omega),Int.one_mul]
 rw [Int.gcd_comm]
 obtain⟨c,hc⟩:=Int.gcd_dvd_left (a:=n) (b:=(d:Int))
 have hg:0<Int.gcd n d:=Int.gcd_pos_of_ne_zero_right n (by omega)
 generalize Int.gcd n d=g at *
 have e:n/(g:Int)=c:=by rw [hc];exact Int.mul_ediv_cancel_left _ (by omega)
 rw [e,hc,Int.natAbs_mul]
 exact Nat.dvd_mul_left _ _
theorem aQp {a b:Rat}:Int.gcd ((a.num/. b.den).num*(b.num/. a.den).num) (((a.num/. b.den).den:Int)*(b.num/. a.den).den)=1:=by
 have ha:=a.den_nz
 have hb:=b.den_nz
 have h1:=(a.num/. b.den).reduced
 have h2:=(b.num/. a.den).reduced
 have ra:=a.reduced
 have rb:=b.reduced
 have n1:(a.num/. (b.den:Int)).num.natAbs∣a.num.natAbs:=aIz hb
 have n2:(b.num/. (a.den:Int)).num.natAbs∣b.num.natAbs:=aIz ha
 have d1:(a.num/. (b.den:Int)).den∣b.den:=aIO rfl hb
 have d2:(b.num/. (a.den:Int)).den∣a.den:=aIO rfl ha
 have x1:Nat.Coprime (a.num/. (b.den:Int)).num.natAbs (b.num/. (a.den:Int)).den:=Nat.Coprime.coprime_dvd_left n1 (Nat.Coprime.coprime_dvd_right d2 ra)
 have x2:Nat.Coprime (b.num/. (a.den:Int)).num.natAbs (a.num/. (b.den:Int)).den:=Nat.Coprime.coprime_dvd_left n2 (Nat.Coprime.coprime_dvd_right d1 rb)
 show Nat.gcd _ _=1
 rw [Int.natAbs_mul,Int.natAbs_mul,Int.natAbs_natCast,Int.natAbs_natCast]
 exact Nat.Coprime.mul_left (Nat.Coprime.mul_right h1 x1) (Nat.Coprime.mul_right x2 h2)
theorem aMJ {n:Int} {d:Nat} (hd:d≠0):dl (n/. (d:Int)).num.natAbs≤dl n.natAbs∧dl (n/. (d:Int)).den≤dl d:=by
 constructor
 ·by_cases h:n=0
  ·subst h;rw [Rat.zero_divInt];exact Nat.le_refl _
  ·exact rL (Nat.le_of_dvd (by omega) (aIz hd))
 ·exact rL (Nat.le_of_dvd (by omega) (aIO rfl hd))
theorem aNe {a b:Rat} (ha:qs a=true) (hb:qs b=true):Ev (fun K=>(eS (Qr b)).bind fun v12=>(jR K (Z a.num) v12).bind fun v14=>(eS (Qr a)).bind fun v16=>(jR K (Z b.num) v16).bind fun v18=>(cP K v14.p v18.p).bind fun v22=>(eS v14).bind fun v24=>(eS v18).bind fun v26=>(cP K v24 v26).bind fun v28=>(oE v22 v28).bind fun v30=>some v30) (Qr (a*b)):=by
 obtain⟨a1,a2⟩:=zJ ha
 obtain⟨b1,b2⟩:=zJ hb
 have ha0:=a.den_nz
 have hb0:=b.den_nz
 have p1:=aMJ (n:=a.num) hb0
 have p2:=aMJ (n:=b.num) ha0
 simp only [aEa,oB]
 refine Ev.bind (aEj (by omega) (by omega) (by simp;omega)) (Ev.bind (aEj (by omega) (by omega) (by simp;omega)) ?_)
 simp only [Qp]
 refine Ev.bind (aAW (by omega)) ?_
 simp only [aEa,oB]
 refine Ev.bind (aAW (by rw [Int.natAbs_natCast,Int.natAbs_natCast];omega)) ?_
 have e1:=(a.num/. (b.den:Int)).den_nz
 have e2:=(b.num/. (a.den:Int)).den_nz
 rw [aBH (Int.mul_ne_zero (by omega) (by omega)) aQp,oB,←aGj]
 have:a.num/. (b.den:Int)*(b.num/. (a.den:Int))=a*b:=by
  rw [Rat.divInt_mul_divInt,aGj,Int.mul_comm (b.den:Int)]
 rw [this]
 exact Ev.pure _
theorem aLw {a b:Rat} (ha:qs a=true) (hb:qs b=true):Ev (fun K=>aBC K (Qr a) (Qr b)) (Qr (a*b)):=by
 obtain⟨a1,a2⟩:=zJ ha
 obtain⟨b1,b2⟩:=zJ hb
 have key:=aNe ha hb
 unfold aBC
 simp only [aIW,Qp,aEQ]
 by_cases h1:a.num=0
 ·simp only [dT h1,cA]
  rw [Rat.num_eq_zero.1 h1,Rat.zero_mul,aBO]
  exact Ev.pure _
 ·simp only [dF h1,bU]
  by_cases h2:b.num=0
  ·simp only [dT h2,cA]
   rw [Rat.num_eq_zero.1 h2,Rat.mul_zero,aBO]
   exact Ev.pure _
  ·simp only [dF h2,bU]
   by_cases h3:a.den=1
   ·simp only [dT h3,cA]
    by_cases h4:b.den=1
    ·simp only [dT h4,cA]
     refine Ev.bind (aAW (by omega)) ?_
     have:a*b=(a.num*b.num)/. 1:=by rw [aGj,h3,h4];rfl
     rw [this,aOu]
     exact Ev.pure _
    ·simp only [dF h4,bU]
     exact key
   ·simp only [dF h3,bU]
    exact key
theorem aLS (a:Rat):aBo (Qr a)=some (Qr (-a)):=by
 unfold aBo
 rw [Qp,aLU,oB]
 congr 1
 rw [aE8 (-a),Rat.neg_num,Rat.neg_den,Qq]
theorem aSL {a:Rat} (h:qs a=true):qs (-a)=true:=by
 unfold qs at *;rw [Rat.neg_num,Rat.neg_den,Int.natAbs_neg];exact h
theorem aQ0 {a b:Rat} (ha:qs a=true) (hb:qs b=true):Ev (fun K=>aC6 K (Qr a) (Qr b)) (Qr (a-b)):=by
 unfold aC6
 simp only [aLS,oB]
 refine Ev.bind (aMI ha (aSL hb)) ?_
 rw [Rat.sub_eq_add_neg]
 exact Ev.pure _
theorem aKr (a:Rat):y8 (Qr a)=some a.num.sign:=by
 unfold y8
 rw [Qp,aOm];rfl
theorem aIa {b:Rat} (h:b.num≠0):b⁻¹=(b.den:Int)/. b.num:=Rat.inv_def b
theorem aS6 {b:Rat} (hb:qs b=true):qs (b⁻¹)=true:=by
 by_cases h:b.num=0
 ·rw [Rat.num_eq_zero.1 h,Rat.inv_zero];decide
 ·have hc:Nat.gcd b.num.natAbs b.den=1:=b.reduced
  rw [aIa h]
  unfold qs at *
  have e1:((b.den:Int)/. b.num).num.natAbs=b.den:=by
   rw [Rat.num_divInt]
   have:Int.gcd b.num b.den=1:=hc
   rw [this]
   simp only [Int.natCast_one,Int.ediv_one,Int.natAbs_mul,Int.natAbs_natCast,Int.natAbs_sign_of_ne_zero h,Nat.one_mul]
  have e2:((b.den:Int)/. b.num).den=b.num.natAbs:=by
   rw [Rat.den_divInt,if_neg h]
   have:Int.gcd b.num b.den=1:=hc
   rw [this,Nat.div_one]
  rw [e1,e2,Bool.and_comm]
  exact hb
theorem aQ4 {a b:Rat} (ha:qs a=true) (hb:qs b=true):Ev (fun K=>aC2 K (Qr a) (Qr b)) (Qr (a/b)):=by
 unfold aC2
 simp only [Qp,aEQ]
 by_cases h:b.num=0
 ·simp only [dT h,cA]
  rw [Rat.num_eq_zero.1 h,Rat.div_def,Rat.inv_zero,Rat.mul_zero,aBO]
  exact Ev.pure _
 ·simp only [dF h,bU,aEa,oB]
  have hc:Int.gcd (b.den:Int) b.num=1:=by rw [Int.gcd_comm];exact b.reduced
  rw [aBH h hc,←aIa h]
  simp only [oB]
  refine Ev.bind (aLw ha (aS6 hb)) ?_
  rw [Rat.div_def]
  exact Ev.pure _
theorem aI6 (x y:List Int) (hl:x.length=y.length) (hL:x.length≤9000000000000):∀(t i:Nat),i+t=x.length→∀K k,t<k→gD K x y k (i:Int)=some (if x.drop i=y.drop i then .go () else .ret false)
 |0,i,hi,K,k,hk=>by
  obtain⟨k',rfl,_⟩:=bD hk
  have:i=x.length:=by omega
  subst this
  simp only [gD,dF (show¬(x.length:Int)<(x.length:Int) by omega),bU]
  rw [if_pos]
  rw [List.drop_of_length_le (Nat.le_refl _),List.drop_of_length_le (by omega)]
 |t+1,i,hi,K,k,hk=>by
  obtain⟨k',rfl,_⟩:=bD hk
  have e1:decide ((i:Int)<(x.length:Int))=true:=dT (by omega)
  have e2:=dK (xs:=x) (i:=i) (by omega)
  have e3:=dK (xs:=y) (i:=i) (by omega)
  have e5:aT ((i:Int)+1)=some ((i+1:Nat):Int):=ckN (m:=0) (by omega) (by omega)
  have dx:x.drop i=x.getD i 0::x.drop (i+1):=by
   rw [List.drop_eq_getElem_cons (by omega)];simp [List.getD_eq_getElem?_getD,show i<x.length by omega]
  have dy:y.drop i=y.getD i 0::y.drop (i+1):=by
   rw [List.drop_eq_getElem_cons (by omega)];simp [List.getD_eq_getElem?_getD,show i<y.length by omega]
  by_cases h:x.getD i 0=y.getD i 0
  ·have ih:=aI6 x y hl hL t (i+1) (by omega) K k' (by omega)
   simp only [gD,e1,e2,e3,e5,nF h,cA,bU,oB,ih]
   by_cases hd:x.drop (i+1)=y.drop (i+1)
   ·rw [if_pos hd,if_pos (by rw [dx,dy,h,hd])]
   ·rw [if_neg hd,if_neg (by rw [dx,dy];intro e;exact hd (List.cons.inj e).2)]
  ·simp only [gD,e1,e2,e3,nT h,cA,oB]
   rw [if_neg (by rw [dx,dy];intro e;exact h (List.cons.inj e).1)]
theorem aNg (x y:List Int) (hL:x.length≤9000000000000):Ev (fun K=>p5 K x y) (decide (x=y)):=by
 refine⟨x.length+1,fun K hK=>?_⟩
 unfold p5
 by_cases h2:x.length=y.length
 ·have h:=aI6 x y h2 hL x.length 0 (by omega) K K (by omega)
  simp only [Int.natCast_zero,List.drop_zero] at h
  simp only [nF (show(x.length:Int)=(y.length:Int) by omega),bU,h,oB]
  by_cases h3:x=y
  ·rw [if_pos h3,dT h3];rfl
  ·rw [if_neg h3,dF h3]
 ·simp only [nT (show(x.length:Int)≠(y.length:Int) by omega),cA]
  rw [dF (by intro e;subst e;exact h2 rfl)]
theorem aH5 (x y:aH) (hL:x.d.length≤9000000000000):Ev (fun K=>u9 K x y) (decide (x=y)):=by
 unfold u9
 by_cases h1:x.neg=y.neg
 ·have e1:(x.neg==y.neg)=true:=beq_iff_eq.2 h1
  simp only [e1,cA]
  refine Ev.bind (aNg _ _ hL) ?_
  have:decide (x.d=y.d)=decide (x=y):=by
   by_cases h3:x.d=y.d
   ·rw [dT h3,dT (by cases x;cases y;simp_all)]
   ·rw [dF h3,dF (by intro e;subst e;exact h3 rfl)]
  rw [this]
  exact Ev.pure _
 ·have e1:(x.neg==y.neg)=false:=beq_false_of_ne h1
  simp only [e1,bU]
  rw [dF (by intro e;subst e;exact h1 rfl)]
  exact Ev.pure _
theorem aSo {a:Rat} (h:qs a=true):(Qr a).p.d.length≤9000000000000∧(Qr a).q.d.length≤9000000000000:=by
 obtain⟨a1,a2⟩:=zJ h
 rw [Qp,Qq,sY]
 refine⟨by omega,?_⟩
 by_cases h:a.den=1
 ·rw [if_pos h];simp
 ·rw [if_neg h,sY];simp;omega
theorem aJM (a b:Rat):(bif decide ((Qr a).p=(Qr b).p) then decide ((Qr a).q=(Qr b).q) else false)=decide (a=b):=by
 by_cases h:a=b
 ·subst h;simp
 ·rw [dF h]
  by_cases h1:(Qr a).p=(Qr b).p
  ·rw [dT h1,cA,dF]
   intro h2
   exact h (aTq (by cases hx:Qr a;cases hy:Qr b;rw [hx,hy] at h1 h2;simp_all))
  ·rw [dF h1];rfl
theorem aOx {a b:Rat} (ha:qs a=true) (hb:qs b=true):Ev (fun K=>aBP K (Qr a) (Qr b)) (decide (a=b)):=by
 obtain⟨l1,l2⟩:=aSo ha
 unfold aBP
 refine Ev.bind (aH5 _ _ l1) ?_
 rw [←aJM]
 by_cases h:(Qr a).p=(Qr b).p
 ·simp only [dT h,cA]
  exact Ev.bind (aH5 _ _ l2) (Ev.pure _)
 ·simp only [dF h,bU]
  exact Ev.pure _
theorem aNl {a b:Rat} (ha:qs a=true) (hb:qs b=true):Ev (fun K=>tB K (Qr a) (Qr b)) (decide (a=b)):=by
 obtain⟨l1,l2⟩:=aSo ha
 unfold tB
 refine Ev.bind (aHP _ _ l1) ?_
 rw [←aJM]
 by_cases h:(Qr a).p=(Qr b).p
 ·simp only [dT h,cA]
  exact Ev.bind (aHP _ _ l2) (Ev.pure _)
 ·simp only [dF h,bU]
  exact Ev.pure _
theorem aNP {a b:Rat} (ha:qs a=true) (hb:qs b=true):Ev (fun K=>uK K (Qr a) (Qr b)) (Qr (a+b)):=by
 obtain⟨a1,a2⟩:=zJ ha
 obtain⟨b1,b2⟩:=zJ hb
 obtain⟨c1,c2,c3,c4,c5,c6⟩:=aC4 ha hb
 unfold uK
 refine Ev.bind (aBs b) ?_
 simp only [Qp]
 refine Ev.bind (aBp (by simp;omega)) (Ev.bind (aBs a) (Ev.bind (aBp (by simp;omega)) (Ev.bind (aJK (by omega) (by omega)) (Ev.bind (aBs a) (Ev.bind (aBs b) (Ev.bind (aBp (by simp;omega)) (Ev.bind (aEX c6 (by omega) (by omega)) ?_)))))))
 rw [←aIf]
 exact Ev.pure _
theorem aPS {a b:Rat} (ha:qs a=true) (hb:qs b=true):Ev (fun K=>uD K (Qr a) (Qr b)) (Qr (a*b)):=by
 obtain⟨a1,a2⟩:=zJ ha
 obtain⟨b1,b2⟩:=zJ hb
 obtain⟨c1,c2,c3,c4,c5,c6⟩:=aC4 ha hb
 unfold uD
 simp only [Qp]
 refine Ev.bind (aBp (by omega)) (Ev.bind (aBs a) (Ev.bind (aBs b) (Ev.bind (aBp (by simp;omega)) (Ev.bind (aEX c6 (by omega) (by omega)) ?_))))
 rw [←aGj]
 exact Ev.pure _
theorem aNr {a:Rat} (ha:qs a=true):Ev (fun K=>tC K (Qr a)) a.num.sign:=by
 obtain⟨a1,a2⟩:=zJ ha
 unfold tC
 rw [Qp]
 exact Ev.bind (aNG (by omega)) (Ev.pure _)
theorem aTA {p q:Int} (hp:-9223372036854775808≤p∧p≤9223372036854775807) (hq:-9223372036854775808≤q∧q≤9223372036854775807):Ev (fun K=>aEp K p q) (Qr ((p:Rat)/q)):=by
 have hs:∀n:Int,-9223372036854775808≤n∧n≤9223372036854775807→dl n.natAbs≤3:=fun n h=>aDt (by
  have:PB 3=1000000000000000000000000000:=by decide
  omega)
 have h1:=hs p hp
 have h2:=hs q hq
 unfold aEp
 simp only [aGR hp,aGR hq,oB]
 rw [←Rat.divInt_eq_div]
 by_cases h:q=0
 ·subst h
  rw [Rat.divInt_zero]
  exact Ev.bind (aNp p) (Ev.pure _)
 ·exact Ev.bind (aEj h (by omega) (by omega)) (Ev.pure _)
theorem aQo {p q:Int} (hp:-9223372036854775808≤p∧p≤9223372036854775807) (hq:-9223372036854775808≤q∧q≤9223372036854775807):Ev (fun K=>vA K p q) (Qr ((p:Rat)/q)):=by
 have hs:∀n:Int,-9223372036854775808≤n∧n≤9223372036854775807→dl n.natAbs≤3:=fun n h=>aDt (by
  have:PB 3=1000000000000000000000000000:=by decide
  omega)
 have h1:=hs p hp
 have h2:=hs q hq
 unfold vA
 refine Ev.bind (aBG hp) (Ev.bind (aBG hq) ?_)
 rw [←Rat.divInt_eq_div]
 by_cases h:q=0
 ·subst h
  rw [Rat.divInt_zero]
  exact Ev.bind (aKF p) (Ev.pure _)
 ·exact Ev.bind (aEX h (by omega) (by omega)) (Ev.pure _)
theorem Ev.get {α:Type} {f:Nat→Option α} {r:α} (h:Ev f r):∃K,f K=some r:=let ⟨N,h⟩:=h;⟨N,h N (Nat.le_refl _)⟩
theorem aB7 {α:Type} {a b:Rat} {r s:α} (h:(bif qs a&&qs b then some s else none)=some r):qs a=true∧qs b=true∧s=r:=by
 cases ha:qs a<;>cases hb:qs b<;>rw [ha,hb] at h<;>simp at h
 exact⟨rfl,rfl,h⟩
theorem aId {α:Type} {a:Rat} {r s:α} (h:(bif qs a then some s else none)=some r):qs a=true∧s=r:=by
 cases ha:qs a<;>rw [ha] at h<;>simp at h
 exact⟨rfl,h⟩
theorem aRA {p q:Int} {r:Rat} (h:qof p q=some r):(-9223372036854775808≤p∧p≤9223372036854775807)∧(-9223372036854775808≤q∧q≤9223372036854775807)∧r=(p:Rat)/q:=by
 unfold qof at h
 obtain⟨p',h1,k1⟩:=aZ h
 obtain⟨q',h2,k2⟩:=aZ k1
 obtain⟨e1,e2⟩:=aAA h1
 obtain⟨e3,e4⟩:=aAA h2
 rw [e1,e3] at k2
 exact⟨e2,e4,(Option.some.inj k2).symm⟩
theorem uR {a b r:Rat} (h:aAJ a b=some r):Ct Tryz.prog aNy [.va (eQ a),.va (eQ b)] (.va (eQ r)):=by
 obtain⟨h1,h2,rfl⟩:=aB7 h
 obtain⟨K,hK⟩:=(aMI h1 h2).get
 exact aGT hK
theorem zA {a b r:Rat} (h:aEl a b=some r):Ct Tryz.prog aMX [.va (eQ a),.va (eQ b)] (.va (eQ r)):=by
 obtain⟨h1,h2,rfl⟩:=aB7 h
 obtain⟨K,hK⟩:=(aQ0 h1 h2).get
 exact aLh hK
theorem mI {a b r:Rat} (h:zR a b=some r):Ct Tryz.prog aNs [.va (eQ a),.va (eQ b)] (.va (eQ r)):=by
 obtain⟨h1,h2,rfl⟩:=aB7 h
 obtain⟨K,hK⟩:=(aLw h1 h2).get
 exact aFY hK
theorem yY {a b r:Rat} (h:aFz a b=some r):Ct Tryz.prog aNi [.va (eQ a),.va (eQ b)] (.va (eQ r)):=by
 obtain⟨h1,h2,rfl⟩:=aB7 h
 obtain⟨K,hK⟩:=(aQ4 h1 h2).get
 exact aLg hK
theorem tL {a r:Rat} (h:aEz a=some r):Ct Tryz.prog aM9 [.va (eQ a)] (.va (eQ r)):=by
 obtain⟨h1,rfl⟩:=aId h
 exact aGr (aLS a)
theorem lN {a:Rat} {r:Int} (h:zN a=some r):Ct Tryz.prog aK9 [.va (eQ a)] (.vc (pI .i64 r)):=by
 obtain⟨h1,rfl⟩:=aId h
 exact aCH (aKr a)
theorem aCA {a b:Rat} {r:Bool} (h:aHd a b=some r):Ct Tryz.prog aKJ [.va (eQ a),.va (eQ b)] (.vc (pB r)):=by
 obtain⟨h1,h2,rfl⟩:=aB7 h
 obtain⟨K,hK⟩:=(aOx h1 h2).get
 exact aKa hK
theorem xE {p q:Int} {r:Rat} (h:qof p q=some r):Ct Tryz.prog aOU [.vc (pI .i64 p),.vc (pI .i64 q)] (.va (eQ r)):=by
 obtain⟨h1,h2,rfl⟩:=aRA h
 obtain⟨K,hK⟩:=(aTA h1 h2).get
 exact aNA hK
theorem w5 {a b r:Rat} (h:aAJ a b=some r):Ct Tryz.prog aEc [.va (eQ a),.va (eQ b)] (.va (eQ r)):=by
 obtain⟨h1,h2,rfl⟩:=aB7 h
 obtain⟨K,hK⟩:=(aNP h1 h2).get
 exact aDB hK
theorem aDP {a b r:Rat} (h:zR a b=some r):Ct Tryz.prog aD8 [.va (eQ a),.va (eQ b)] (.va (eQ r)):=by
 obtain⟨h1,h2,rfl⟩:=aB7 h
 obtain⟨K,hK⟩:=(aPS h1 h2).get
 exact aDE hK
theorem z9 {a:Rat} {r:Int} (h:zN a=some r):Ct Tryz.prog aDX [.va (eQ a)] (.vc (pI .i64 r)):=by
 obtain⟨h1,rfl⟩:=aId h
 obtain⟨K,hK⟩:=(aNr h1).get
 exact aDj hK
theorem aDb {a b:Rat} {r:Bool} (h:aHd a b=some r):Ct Tryz.prog aDz [.va (eQ a),.va (eQ b)] (.vc (pB r)):=by
 obtain⟨h1,h2,rfl⟩:=aB7 h
 obtain⟨K,hK⟩:=(aNl h1 h2).get
 exact aC9 hK
theorem bS {p q:Int} {r:Rat} (h:qof p q=some r):Ct Tryz.prog aEV [.vc (pI .i64 p),.vc (pI .i64 q)] (.va (eQ r)):=by
 obtain⟨h1,h2,rfl⟩:=aRA h
 obtain⟨K,hK⟩:=(aQo h1 h2).get
 exact aEx hK
end Go.Proofs.YtldhbdgfpjoamaaGreat
set_option linter.unusedVariables false
namespace Go.Proofs.YtldhbdgfpjoamaaGreat
theorem rdG {α:Type} {xs:List α} {i:Nat} {x:α} (h:xs[i]?=some x):bL xs (i:Int)=some x:=by
 unfold bL
 rw [if_pos (by omega)]
 simpa using h
theorem rdM {α:Type} {xs:List α} {i:Nat} (h:i<xs.length):∃x,x∈xs∧xs[i]?=some x∧bL xs (i:Int)=some x:=
 ⟨xs[i],List.getElem_mem h,List.getElem?_eq_getElem h,rdG (List.getElem?_eq_getElem h)⟩
theorem stG {α:Type} {xs:List α} {i:Nat} {v:α} (h:i<xs.length):oO xs (i:Int) v=some (xs.set i v):=by
 unfold oO
 rw [if_pos (by constructor;omega;simpa using h)]
 simp
def aFw (xs:List Int):Prop:=∀x∈xs,-9223372036854775808≤x∧x≤9223372036854775807
def Bd (n:Nat) (q:Rat):Prop:=q.num.natAbs<2^n∧q.den<2^n
theorem Bd.mono {m n:Nat} {q:Rat} (h:Bd m q) (hn:m≤n):Bd n q:=
 ⟨Nat.lt_of_lt_of_le h.1 (Nat.pow_le_pow_right (by decide) hn),Nat.lt_of_lt_of_le h.2 (Nat.pow_le_pow_right (by decide) hn)⟩
theorem aMd {a n:Nat} (h:a<2^n) (hn:n≤1073741824):a.log2≤1073741824:=by
 by_cases h0:a=0
 ·subst h0;decide
 ·have:=(Nat.log2_lt h0).2 h
  omega
theorem Bd.qs {n:Nat} {q:Rat} (h:Bd n q) (hn:n≤1073741824):qs q=true:=by
 unfold Go.Proofs.YtldhbdgfpjoamaaGreat.qs
 rw [Bool.and_eq_true,Nat.ble_eq,Nat.ble_eq]
 exact⟨aMd h.1 hn,aMd h.2 hn⟩
theorem aG0 (n:Int) {d:Int} (hd:d≠0):(Rat.divInt n d).num.natAbs≤n.natAbs:=by
 rw [Rat.num_divInt]
 have h:(d.sign*n/((d.gcd n:Nat):Int)).natAbs≤(d.sign*n).natAbs:=Int.natAbs_ediv_le_natAbs _ _
 rw [Int.natAbs_mul,Int.natAbs_sign_of_ne_zero hd,Nat.one_mul] at h
 exact h
theorem aG7 (n:Int) {d:Int} (hd:d≠0):(Rat.divInt n d).den≤d.natAbs:=by
 rw [Rat.den_divInt,if_neg hd]
 exact Nat.div_le_self _ _
theorem Bd.divInt {k:Nat} {n d:Int} (hd:d≠0) (h1:n.natAbs<2^k) (h2:d.natAbs<2^k):Bd k (Rat.divInt n d):=
 ⟨Nat.lt_of_le_of_lt (aG0 n hd) h1,Nat.lt_of_le_of_lt (aG7 n hd) h2⟩
theorem Bd.zero:Bd 1 0:=by constructor<;>decide
theorem aEn {a b m n:Nat} (h1:a<2^m) (h2:b<2^n):a*b<2^(m+n):=by
 rw [Nat.pow_add]
 exact Nat.mul_lt_mul'' h1 h2
theorem Bd.mul {m n:Nat} {a b:Rat} (ha:Bd m a) (hb:Bd n b):Bd (m+n) (a*b):=by
 rw [aGj]
 refine Bd.divInt (Int.mul_ne_zero (by have:=a.den_nz;omega) (by have:=b.den_nz;omega)) ?_ ?_
 ·rw [Int.natAbs_mul];exact aEn ha.1 hb.1
 ·rw [Int.natAbs_mul,Int.natAbs_natCast,Int.natAbs_natCast];exact aEn ha.2 hb.2
theorem Bd.add {m n:Nat} {a b:Rat} (ha:Bd m a) (hb:Bd n b):Bd (m+n+1) (a+b):=by
 rw [aIf]
 have h1:=aEn ha.1 hb.2
 have h2:=aEn hb.1 ha.2
 have h3:=aEn ha.2 hb.2
 rw [Nat.add_comm n m] at h2
 refine Bd.divInt (Int.mul_ne_zero (by have:=a.den_nz;omega) (by have:=b.den_nz;omega)) ?_ ?_
 ·have:=Int.natAbs_add_le (a.num*b.den) (b.num*a.den)
  rw [Int.natAbs_mul,Int.natAbs_mul,Int.natAbs_natCast,Int.natAbs_natCast] at this
  rw [Nat.pow_succ]
  omega
 ·rw [Int.natAbs_mul,Int.natAbs_natCast,Int.natAbs_natCast,Nat.pow_succ];omega
theorem Bd.neg {n:Nat} {a:Rat} (ha:Bd n a):Bd n (-a):=by
 unfold Bd
 rw [Rat.neg_num,Rat.neg_den,Int.natAbs_neg];exact ha
theorem Bd.sub {m n:Nat} {a b:Rat} (ha:Bd m a) (hb:Bd n b):Bd (m+n+1) (a-b):=by
 rw [Rat.sub_eq_add_neg];exact ha.add hb.neg
theorem Bd.inv {n:Nat} {b:Rat} (hb:Bd n b) (hn:1≤n):Bd n b⁻¹:=by
 by_cases h:b.num=0
 ·rw [Rat.num_eq_zero.1 h,Rat.inv_zero];exact Bd.zero.mono hn
 ·rw [aIa h]
  exact Bd.divInt h (by simpa using hb.2) hb.1
theorem Bd.pos {n:Nat} {q:Rat} (h:Bd n q):1≤n:=by
 rcases Nat.eq_zero_or_pos n with h0|h0
 ·subst h0
  have:=h.2
  have:=q.den_nz
  omega
 ·exact h0
theorem Bd.div {m n:Nat} {a b:Rat} (ha:Bd m a) (hb:Bd n b):Bd (m+n) (a/b):=by
 rw [Rat.div_def];exact ha.mul (hb.inv hb.pos)
theorem s6 {m n:Nat} {a b:Rat} (ha:Bd m a) (hb:Bd n b) (hm:m≤1073741824) (hn:n≤1073741824):aAJ a b=some (a+b):=by
 unfold aAJ;rw [ha.qs hm,hb.qs hn];rfl
theorem zD {m n:Nat} {a b:Rat} (ha:Bd m a) (hb:Bd n b) (hm:m≤1073741824) (hn:n≤1073741824):aEl a b=some (a-b):=by
 unfold aEl;rw [ha.qs hm,hb.qs hn];rfl
theorem pU {m n:Nat} {a b:Rat} (ha:Bd m a) (hb:Bd n b) (hm:m≤1073741824) (hn:n≤1073741824):zR a b=some (a*b):=by
 unfold zR;rw [ha.qs hm,hb.qs hn];rfl
theorem aB5 {m n:Nat} {a b:Rat} (ha:Bd m a) (hb:Bd n b) (hm:m≤1073741824) (hn:n≤1073741824):aFz a b=some (a/b):=by
 unfold aFz;rw [ha.qs hm,hb.qs hn];rfl
theorem aC8 {m:Nat} {a:Rat} (ha:Bd m a) (hm:m≤1073741824):aEz a=some (-a):=by
 unfold aEz;rw [ha.qs hm];rfl
theorem mF {m:Nat} {a:Rat} (ha:Bd m a) (hm:m≤1073741824):zN a=some a.num.sign:=by
 unfold zN;rw [ha.qs hm];rfl
theorem aGa {p q:Int} (hp:-9223372036854775808≤p∧p≤9223372036854775807) (hq:-9223372036854775808≤q∧q≤9223372036854775807):qof p q=some ((p:Rat)/q):=by
 unfold qof;rw [k5 hp,k5 hq];rfl
theorem Bd.of {k:Nat} {p q:Int} (hq:q≠0) (h1:p.natAbs<2^k) (h2:q.natAbs<2^k):Bd k ((p:Rat)/q):=by
 rw [←Rat.divInt_eq_div];exact Bd.divInt hq h1 h2
theorem aDy {k:Nat} {p q:Int} (hq:q≠0) (h1:p.natAbs<2^k) (h2:q.natAbs<2^k) (hk:k≤62):∃r,qof p q=some r∧r=(p:Rat)/q∧Bd k r:=by
 have:2^k≤2^62:=Nat.pow_le_pow_right (by decide) hk
 refine⟨_,aGa (by omega) (by omega),rfl,Bd.of hq h1 h2⟩
end Go.Proofs.YtldhbdgfpjoamaaGreat
set_option linter.unusedVariables false
namespace Go.Proofs.YtldhbdgfpjoamaaGreat
open Go.ChangeShapes Go.WideShapes Go.ChangeAt Go.RowKit
inductive AV
 |vi (n:Int)
 |vs (xs:List Int)
 |vb (b:Bool)
inductive AK
 |ki
 |ks
 |kb
def AV.vp:AV→VP
 | .vi n=>.vc (pI .i64 n)
 | .vs xs=>.vc (pS cI xs)
 | .vb x=>.vc (pB x)
def AV.good:AK→AV→Prop
 | .ki,.vi n=>-9223372036854775808≤n∧n≤9223372036854775807
 | .ks,.vs xs=>aFw xs∧xs.length≤aCw
 | .kb,.vb _=>True
 |_,_=>False
def AK.ok (P:Program) (t:TypeId):AK→Prop
 | .ki=>P.underlying t=some (.int .i64)
 | .ks=>∃e,P.underlying t=some (.slice e)∧P.underlying e=some (.int .i64)∧P.cellsOf e=1
 | .kb=>P.underlying t=some .bool
def aLE (W:World):qS:=fun b=>W.heap[b]?
theorem aQn {H:Type} {enc:TypeId×Value→H} {P:Program} {W:World} {base:Nat} {t:TypeId} {v:Value} {d:DataW H} {p:List MemPlace} {k:AK} (hk:k.ok P t) (hval:Value.okWide P W .any base t v) (h:DataW.Trod enc P W 0 (fun _=>true) true t v d p):
  ∃av:AV,AV.good k av∧av.vp.h (aLE W) v∧∀(W':World) (sp:Nat→Bool),(∀b,b<W.heap.size→W'.heap[b]?=W.heap[b]?)→(∀q∈p,sp q.block=true)→DataW.Trod enc P W' 0 sp true t v d p:=by
 cases k with
 |ki=>
  obtain⟨n,rfl,rfl,rfl,hw⟩:=open_int hk hval h
  exact⟨.vi n,bounds_i64 hw,rfl,fun W' sp _ _=>shut_int hk hw⟩
 |kb=>
  obtain⟨x,rfl,rfl,rfl⟩:=open_bool hk hval h
  exact⟨.vb x,trivial,rfl,fun W' sp _ _=>shut_bool hk x⟩
 |ks=>
  obtain⟨e,ht,he,hc⟩:=hk
  obtain⟨a0,aEQ,cap0,rfl⟩:=okWide_slice ht hval
  obtain⟨bD,hf⟩:=h
  rcases open_ints ht he hc hf with⟨h1,h2⟩|⟨a,len,cap,zs,h1,hb,hl,hm,hz,hx,hcell,hw⟩
  ·have h1':Value.slice a0 aEQ cap0=.slice none 0 0:=by simpa [Value.cells] using h1
   rw [h1']
   simp only [Prod.mk.injEq] at h2
   obtain⟨rfl,rfl⟩:=h2
   exact⟨.vs [],⟨fun x hx=>by simp at hx,by simp⟩,dA cI _,fun W' sp _ _=>shut_slice_nil ht⟩
  ·have h1':Value.slice a0 aEQ cap0=.slice (some a) len cap:=by simpa [Value.cells] using h1
   rw [h1']
   simp only [Prod.mk.injEq] at hx
   obtain⟨rfl,rfl⟩:=hx
   have hzl:zs.length=cap:=by simpa using hz
   have hbl:∀i,i<zs.length→a.block<W.heap.size:=fun i hi=>by
    have:=hcell i hi
    unfold World.cell? at this
    rw [block_add] at this
    cases hq:W.heap[a.block]? with
    |none=>rw [hq] at this;cases this
    |some o=>exact(Array.getElem?_eq_some_iff.1 hq).1
   refine⟨.vs (zs.take len),⟨fun x hx=>bounds_i64 (hw x (List.mem_of_mem_take hx)),?_⟩,?_,fun W' sp hW hsp=>⟨2,?_⟩⟩
   ·have hlen0:(zs.take len).length≤cap:=by simp;omega
    have:maxLen≤aCw:=by decide
    omega
   ·have hlen:(zs.take len).length=len:=by simp;omega
    refine⟨some a,cap,by rw [hlen],?_,by rw [hlen];exact hl,fun j x hj=>?_⟩
    ·rw [hlen]
     have:maxLen≤aCw:=by decide
     omega
    ·have hjl:j<len:=by have:=(List.getElem?_eq_some_iff.1 hj).1;omega
     have hcj:=hcell j (by omega)
     have hsp:a.spot=none:=by
      have hc0:=hcell 0 (by omega)
      unfold World.cell? at hc0
      cases hq:a.spot with
      |none=>rfl
      |some s=>
       have e0:a.add 0=a:=by simp [Addr.add]
       rw [e0,hq] at hc0
       cases hh:W.heap[a.block]? with
       |none=>rw [hh] at hc0;cases hc0
       |some o=>rw [hh] at hc0;cases o<;>simp at hc0
     obtain⟨ab,ao,ax⟩:=a
     simp only at hsp
     subst hsp
     have hxz:zs.getD j 0=x:=by
      rw [List.getElem?_take,if_pos hjl] at hj
      simp [List.getD_eq_getElem?_getD,hj]
     rw [aBf,hxz] at hcj
     refine⟨ab,ao,rfl,[.int .i64 x],⟨rfl,trivial⟩,fun t u hu=>?_⟩
     cases t with
     |succ t=>simp at hu
     |zero=>
      simp only [List.getElem?_cons_zero,Option.some.injEq] at hu
      subst hu
      unfold World.cell? at hcj
      have e1:ao+j*cI.n+0=ao+j:=by show ao+j*1+0=ao+j;omega
      rw [e1]
      unfold aBl aLE
      cases hh:W.heap[ab]? with
      |none=>rw [hh] at hcj;cases hcj
      |some o=>rw [hh] at hcj;cases o<;>simp_all
   ·have hz':zs.length=(if sp a.block then cap else len):=by
     by_cases h0:cap=0
     ·have:len=0:=by omega
      rw [hzl,h0,this];simp
     ·have:sp a.block=true:=hsp (.cell a.block (a.off+0)) (by
       unfold MemPlace.row
       exact List.mem_map.2 ⟨0,List.mem_range.2 (by omega),rfl⟩)
      rw [this];simpa using hzl
    exact shut_ints 0 ht he hc (Nat.zero_le _) hl hm hz' (fun i hi=>by
     rw [←hcell i hi]
     unfold World.cell?
     rw [block_add,hW _ (hbl i hi)]) hw
def AKs (P:Program):List TypeId→List AK→Prop
 |[],[]=>True
 |t::ts,k::ks=>k.ok P t∧AKs P ts ks
 |_,_=>False
def aMt:List AK→List AV→Prop
 |[],[]=>True
 |k::ks,a::l=>AV.good k a∧aMt ks l
 |_,_=>False
theorem aJo {H:Type} {enc:TypeId×Value→H} {P:Program} {W:World} {base:Nat}:∀{ts:List TypeId} {ks:List AK} {vs:List Value} {ds:List (DataW H)} {p:List MemPlace},AKs P ts ks→
  (∀(j:Nat) t v,ts[j]?=some t→vs[j]?=some v→Value.okWide P W .any base t v)→DataW.TrodAll enc P W 0 (fun _=>true) true ts vs ds p→
  ∃avs,aMt ks avs∧qD (aLE W) (avs.map AV.vp) vs∧ds.length=ts.length∧∀(W':World) (sp:Nat→Bool),(∀b,b<W.heap.size→W'.heap[b]?=W.heap[b]?)→(∀q∈p,sp q.block=true)→DataW.TrodAll enc P W' 0 sp true ts vs ds p
 |[],[],vs,ds,p,_,_,h=>by
  obtain⟨rfl,rfl,rfl⟩:=trodAll_nil h
  exact⟨[],trivial,trivial,rfl,fun _ _ _ _=>trodAll_mk0⟩
 |t::ts,k::ks,vs,ds,p,hk,hv,h=>by
  obtain⟨v,vs',d,ds',q,r,rfl,rfl,rfl,h1,h2⟩:=trodAll_cons h
  obtain⟨av,a1,a2,a3⟩:=aQn hk.1 (hv 0 t v rfl rfl) h1
  obtain⟨avs,b1,b2,b3,b4⟩:=aJo hk.2 (fun j t' v' hj hj'=>hv (j+1) t' v' (by simpa using hj) (by simpa using hj')) h2
  exact⟨av::avs,⟨a1,b1⟩,⟨a2,b2⟩,by simp [b3],fun W' sp hW hsp=>trodAll_cons_mk (a3 W' sp hW fun x hx=>hsp x (by simp [hx])) (b4 W' sp hW fun x hx=>hsp x (by simp [hx]))⟩
 |[],_::_,_,_,_,hk,_,_=>hk.elim
 |_::_,[],_,_,_,hk,_,_=>hk.elim
theorem aQO {H:Type} {enc:TypeId×Value→H} {P:Program} {f:Func} {s:ChangeSpec} {apart fresh:Bool} {W W':World} {args:Array Value} {ds:List (DataW H)} {before:List MemPlace} {tb:TypeId}
  (hW:DataW.Whole enc P f.params.toList s.vars apart W args.toList ds [] before) (hv:s.vars=[]) (hr:f.resultTypes=#[tb]) (htb:P.underlying tb=some .bool)
  (hfn:s.fn H (ds++[])={results:=[.lit (.bool true)],args:=ds})
  (hargs:∀sp:Nat→Bool,(∀p∈before,sp p.block=true)→DataW.TrodAll enc P W' 0 sp true f.params.toList args.toList ds before) (hb:Below W.heap.size W W'):
  s.post enc P f apart fresh false false W args (.bool true) W':=by
 have hin:∀p∈before,(fun b=>decide (b<W.heap.size)) p.block=true:=fun p hp=>by simpa using hW.lt p hp
 refine⟨ds,[],before,[],before,[],hW,?_,?_,?_,World.keptBut_mono (fun p hp=>⟨hp,.inr (.inl hp)⟩) (hb.frame (·∈before)),fun h=>by cases h⟩
 ·rw [hfn,hr]
  exact trodAll_mk1 (shut_bool htb true)
 ·rw [hfn]
  exact hargs _ hin
 ·rw [hfn,hv]
  simp [DataW.TrodVars]
theorem aIx {H:Type} {enc:TypeId×Value→H} {P:Program} {n:Nat} {f:Func} {s:ChangeSpec} {apart fresh:Bool} {ts:List TypeId} {ks:List AK} {tb:TypeId} (hp:f.params=ts.toArray) (hk:AKs P ts ks)
  (hlaw:∀avs,aMt ks avs→Ct P n (avs.map AV.vp) (.vc (pB true))) (hv:s.vars=[]) (hr:f.resultTypes=#[tb]) (htb:P.underlying tb=some .bool)
  (hfn:∀ds:List (DataW H),ds.length=ts.length→s.fn H (ds++[])={results:=[.lit (.bool true)],args:=ds})
  {W:World} {base:Nat} {args:Array Value} {ds gs:List (DataW H)} {before:List MemPlace} (hval:∀(j:Nat) t v,f.params[j]?=some t→args[j]?=some v→Value.okWide P W .any base t v)
  (hW:DataW.Whole enc P f.params.toList s.vars apart W args.toList ds gs before):
  Calls P n args W fun e W'=>∃v,e=.returned v∧s.post enc P f apart fresh false false W args v W':=by
 have hW':=hW
 obtain⟨p,q,hA,hV,rfl,hfz,hnd⟩:=hW
 rw [hv] at hV
 obtain⟨rfl,rfl⟩:=trodVars_none hV
 rw [hp] at hA hval
 obtain⟨avs,a1,a2,a3,a4⟩:=aJo hk (fun j t v hj hj'=>hval j t v (by simpa using hj) (by simpa using hj')) hA
 have c:=hlaw avs a1
 refine(c.run (aLE W) W args (fun b o h=>h) (by simp) (by simp) a2).mono fun e W' h=>?_
 obtain⟨v,M',Ho,qq,⟨rfl,rfl⟩,rfl,hst,hq⟩:=h
 have hv1:v=.bool true:=hq
 subst hv1
 have hkeep:∀b,b<W.heap.size→W'.heap[b]?=W.heap[b]?:=fun b hb=>hst.keep b hb (by simp)
 refine⟨_,rfl,aQO (tb:=tb) hW' hv hr htb (hfn ds a3) (fun sp hsp=>?_) ⟨hst.os,hst.tape,hst.output,hst.size,hkeep⟩⟩
 rw [hp]
 have:=a4 W' sp hkeep (fun x hx=>hsp x (by simpa using hx))
 simpa using this
theorem own:ownKnob Tryz.prog.godebug=none:=by kernel_rfl
end Go.Proofs.YtldhbdgfpjoamaaGreat
set_option linter.unusedVariables false
namespace Go.Proofs.YtldhbdgfpjoamaaGreat
/-- The facts, numbered. -/
def jF (P:Program) (f:FuncId) (fn:Func) (s:ChangeSpec) (c:OpenClaim):Nat→Bool
 |0=>c.wf (OpenSpec.ofChange s)
 |1=>laidOutB P
 |2=>mapsRowed P
 |3=>fn.params.all (P.readableRec ·)
 |4=>namedTie P c.named s.vars
 |5=>c.stops==[]
 |6=>P.stops==[]
 |7=>c.knobs==[]
 |8=>P.stopKnobs==[]
 |9=>c.inPlace==P.inPlace f
 |10=>c.unfollowed==P.unfollowed f
 |11=>c.recurses==P.recurses f
 |12=>c.named==P.varsNamed f
 |13=>c.maps==(fn.params.toList++s.plain.varTypes P).any (P.mapsRec ·)
 |14=>c.ifaces==(fn.params.toList++s.plain.varTypes P).any (P.ifacesRec ·)
 |15=>c.mapsOut==P.mapsAmong fn.resultTypes.toList
 |16=>c.loops==(fn.params.toList++s.plain.varTypes P).any (P.loopsFrom ·)
 |17=>c.wideKeys==(fn.params.toList++s.plain.varTypes P++fn.resultTypes.toList).any (P.wideKeysFrom ·)
 |18=>s.vars.all (P.varReadable ·)
 |19=>fn.resultTypes.all (fun t=>P.readableRec t&&decide (t<P.types.size))
 |20=>c.ifacesOut==fn.resultTypes.toList.any (P.ifacesRec ·)
 |21=>c.loopsOut==fn.resultTypes.toList.any (P.loopsFrom ·)
 |22=>c.plainKeys==P.plainKeys
 |23=>c.shortTexts.isNone
 |24=>P.stopsHeard
 |25=>P.mayEnter
 |26=>c.lifted==P.liftsFinal
 |27=>P.make==some c.make
 |28=>c.kinds==(if c.domain.isEmpty then [] else fn.params.toList.map fun t=>match P.underlying t with|some (.int k)=>some k|_=>none)
 |29=>c.pinned==c.pinnedBy
 |30=>c.veiled==(fn.params.toList++s.plain.varTypes P++fn.resultTypes.toList).any (P.veiledRec ·)
 |31=>c.veiledFits P fn.params.toList (fn.params.toList++s.plain.varTypes P++fn.resultTypes.toList)
 |_=>true
theorem aNk {P:Program} {f:FuncId} {fn:Func} {s:ChangeSpec} {c:OpenClaim} (h:∀i,i<32→jF P f fn s c i=true):joinedFacts P f fn s c=true:=by
 unfold joinedFacts
 simp only [Bool.and_eq_true]
 exact⟨⟨⟨⟨⟨⟨⟨⟨⟨⟨⟨⟨⟨⟨⟨⟨⟨⟨⟨⟨⟨⟨⟨⟨⟨⟨⟨⟨⟨⟨⟨h 0 (by decide),h 1 (by decide)⟩,h 2 (by decide)⟩,h 3 (by decide)⟩,h 4 (by decide)⟩,h 5 (by decide)⟩,h 6 (by decide)⟩,h 7 (by decide)⟩,h 8 (by decide)⟩,h 9 (by decide)⟩,h 10 (by decide)⟩,h 11 (by decide)⟩,h 12 (by decide)⟩,h 13 (by decide)⟩,h 14 (by decide)⟩,h 15 (by decide)⟩,h 16 (by decide)⟩,h 17 (by decide)⟩,h 18 (by decide)⟩,h 19 (by decide)⟩,h 20 (by decide)⟩,h 21 (by decide)⟩,h 22 (by decide)⟩,h 23 (by decide)⟩,h 24 (by decide)⟩,h 25 (by decide)⟩,h 26 (by decide)⟩,h 27 (by decide)⟩,h 28 (by decide)⟩,h 29 (by decide)⟩,h 30 (by decide)⟩,h 31 (by decide)⟩
theorem k6 {φ:Nat→Prop} {n:Nat} (h:φ n) (k:∀i,i<n→φ i):∀i,i<n+1→φ i:=fun i hi=>by
 by_cases e:i=n
 ·rw [e];exact h
 ·exact k i (by omega)
end Go.Proofs.YtldhbdgfpjoamaaGreat
set_option linter.unusedVariables false
namespace Go.Proofs.YtldhbdgfpjoamaaGreat
open Rat
def aPT (a b:Rat):Option Int:=bif qs a&&qs b then some (if a<b then -1 else if b<a then 1 else 0) else none
def aEI (a:Rat):Option Bool:=bif qs a then some true else none
theorem aNM (x y:Int) (hx:x<0) (hy:y<0):w6 (y.natAbs:Int) (x.natAbs:Int)=w6 x y:=by
 unfold w6
 by_cases a:x<y
 ·rw [if_pos a,if_pos (by omega)]
 ·rw [if_neg a,if_neg (by omega)]
  by_cases b:y<x
  ·rw [if_pos b,if_pos (by omega)]
  ·rw [if_neg b,if_neg (by omega)]
theorem aGz {x y:Int} (hx:dl x.natAbs≤9000000000000) (hy:dl y.natAbs≤9000000000000):Ev (fun K=>mH K (Z x) (Z y)) (w6 x y):=by
 have dx:=cM x.natAbs;have dy:=cM y.natAbs
 have tx:=oN x.natAbs;have ty:=oN y.natAbs
 unfold mH
 simp only [Z_d,wI]
 by_cases h1:x<0
 ·by_cases h2:y<0
  ·simp only [dT h1,dT h2,bne_self_eq_false,bU,cA]
   have h:=aAY dy dx ty tx (by show dl _≤_;omega)
   rw [dW,dW,aNM x y h1 h2] at h
   exact Ev.bind h (Ev.pure _)
  ·simp only [dT h1,dF h2,Bool.bne_false,cA]
   unfold w6
   rw [if_pos (by omega)]
   exact Ev.pure _
 ·by_cases h2:y<0
  ·simp only [dF h1,dT h2,Bool.bne_true,Bool.not_false,cA,bU]
   unfold w6
   rw [if_neg (by omega),if_pos (by omega)]
   exact Ev.pure _
  ·simp only [dF h1,dF h2,bne_self_eq_false,bU]
   have h:=aAY dx dy tx ty (by show dl _≤_;omega)
   rw [dW,dW,show((x.natAbs:Nat):Int)=x by omega,show((y.natAbs:Nat):Int)=y by omega] at h
   exact Ev.bind h (Ev.pure _)
theorem aMW (a b:Rat):(if a<b then -1 else if b<a then 1 else 0:Int)=w6 (a.num*b.den) (b.num*a.den):=by
 unfold w6
 simp only [Rat.lt_iff]
theorem aFT (u v:Int) (p q:Nat) (hp:0<p) (hq:0<q) (h:u.sign≠v.sign∨u=0∧v=0):w6 u.sign v.sign=w6 (u*q) (v*p):=by
 have key:∀(w:Int) (n:Nat),0<n→(w<0∧w.sign=-1∧w*n<0)∨(w=0∧w.sign=0∧w*n=0)∨(0<w∧w.sign=1∧0<w*n):=fun w n hn=>by
  rcases Int.lt_trichotomy w 0 with hw|hw|hw
  ·exact .inl ⟨hw,Int.sign_eq_neg_one_of_neg hw,Int.mul_neg_of_neg_of_pos hw (by omega)⟩
  ·exact .inr (.inl ⟨hw,by rw [hw];rfl,by rw [hw,Int.zero_mul]⟩)
  ·exact .inr (.inr ⟨hw,Int.sign_eq_one_of_pos hw,Int.mul_pos hw (by omega)⟩)
 unfold w6
 rcases key u q hq with⟨_,e1,e2⟩|⟨_,e1,e2⟩|⟨_,e1,e2⟩<;>rcases key v p hp with⟨_,f1,f2⟩|⟨_,f1,f2⟩|⟨_,f1,f2⟩<;>rw [e1,f1] at h<;>rw [e1,f1]<;>(repeat' split)<;>omega
theorem aMp (u:Int):-9223372036854775808≤u.sign∧u.sign≤9223372036854775807∧dl u.sign.natAbs≤1:=by
 have h1:dl 1=1:=dl1
 have h0:dl 0=0:=yH
 rcases Int.lt_trichotomy u 0 with hw|hw|hw
 ·rw [Int.sign_eq_neg_one_of_neg hw];exact⟨by omega,by omega,by show dl 1≤1;omega⟩
 ·rw [hw];exact⟨by decide,by decide,by show dl 0≤1;omega⟩
 ·rw [Int.sign_eq_one_of_pos hw];exact⟨by omega,by omega,by show dl 1≤1;omega⟩
theorem aJ0 {a b:Rat} (ha:qs a=true) (hb:qs b=true):Ev (fun K=>zH K (Qr a) (Qr b)) (if a<b then -1 else if b<a then 1 else 0):=by
 obtain⟨a1,a2⟩:=zJ ha
 obtain⟨b1,b2⟩:=zJ hb
 obtain⟨c1,c2,c3⟩:=aC4 ha hb
 obtain⟨s1,s2,s3⟩:=aMp a.num
 obtain⟨t1,t2,t3⟩:=aMp b.num
 have ad:=a.den_pos
 have bd:=b.den_pos
 rw [aMW]
 unfold zH
 simp only [aKr,oB,aGR ⟨s1,s2⟩,aGR ⟨t1,t2⟩]
 by_cases h:a.num.sign=b.num.sign
 ·simp only [nF h,bU]
  by_cases h0:a.num.sign=0
  ·simp only [qT h0,cA]
   have e:=aFT a.num b.num a.den b.den ad bd (.inr ⟨Int.sign_eq_zero_iff_zero.1 h0,Int.sign_eq_zero_iff_zero.1 (h▸h0)⟩)
   rw [←e]
   exact Ev.bind (aGz (by omega) (by omega)) (Ev.pure _)
  ·simp only [qF h0,bU,aEa,oB,Qp]
   exact Ev.bind (aAW (by simp;omega)) (Ev.bind (aAW (by simp;omega)) (Ev.bind (aGz (by omega) (by omega)) (Ev.pure _)))
 ·simp only [nT h,cA]
  rw [←aFT a.num b.num a.den b.den ad bd (.inl h)]
  exact Ev.bind (aGz (by omega) (by omega)) (Ev.pure _)
theorem vdig {d:Int} (h:0≤d∧d<1000000000):kW d=some false:=by
 unfold kW
 rw [dF (by omega),bU,dF (by omega)]
theorem aJz {xs:List Int} (hd:lW xs) (hl:xs.length≤9000000000000) (K:Nat):∀(m i:Nat),i+m=xs.length→∀k,m<k→fK K xs kW k i=some (.go ())
 |0,i,h,k+1,_=>by
  simp only [fK]
  rw [dF (by omega),bU]
 |m+1,i,h,k+1,hk=>by
  simp only [fK]
  rw [dT (by omega),cA,dK (by omega),oB,vdig (hd i),oB,bU,show((i:Nat):Int)+1=((i+1:Nat):Int) by omega,aP6 (by omega) (by omega),oB]
  exact aJz hd hl K m (i+1) (by omega) k (by omega)
theorem aOs {n:Nat} (h:dl n≠0):(cO n).getD (dl n-1) 0≠0:=by
 rcases oN n with h1|h1
 ·exact absurd (by unfold dl;rw [h1];rfl) h
 ·exact h1
theorem aO2 {x:Int} (hx:dl x.natAbs≤9000000000000):Ev (fun K=>pD K (Z x)) true:=by
 refine⟨dl x.natAbs+1,fun K hK=>?_⟩
 have hc:kI K (cO x.natAbs) kW=some false:=by
  unfold kI pR
  have:=aJz (cM x.natAbs) (by show dl _≤_;omega) K (dl x.natAbs) 0 (by show 0+dl _=dl _;omega) K (by omega)
  rw [show((0:Nat):Int)=0 from rfl] at this
  rw [this]
  rfl
 show pD K (Z x)=some true
 unfold pD
 have hl0:(((cO x.natAbs).length:Int)==0)=decide (x=0):=aEQ
 rw [Z_d,hc,oB,bU,hl0]
 by_cases h:x=0
 ·rw [dT h,cA,wI,dF (by omega)];rfl
 ·have hl:dl x.natAbs≠0:=by rw [Ne,xX];omega
  have hlen:(cO x.natAbs).length=dl x.natAbs:=rfl
  rw [dF h,bU,dT (by omega),cA,aP6 (by omega) (by omega),oB,hlen,show((dl x.natAbs:Nat):Int)-1=((dl x.natAbs-1:Nat):Int) by omega,dK (by omega),oB,nT (aOs hl)]
theorem Qr_Z (a:Rat):Qr a=⟨Z a.num,Z (if a.den=1 then 0 else a.den)⟩:=by
 rw [aE8]
 by_cases h:a.den=1
 ·rw [if_pos h,if_pos h,Z0]
 ·rw [if_neg h,if_neg h]
theorem aSy {a:Rat}:(if a.den=1 then(0:Int) else a.den)≠1∧0≤(if a.den=1 then(0:Int) else a.den)∧dl (if a.den=1 then(0:Int) else a.den).natAbs≤dl a.den∧((if a.den=1 then(0:Int) else a.den)≠0→Int.gcd a.num (if a.den=1 then(0:Int) else a.den)=1):=by
 by_cases h:a.den=1
 ·rw [if_pos h];exact⟨by omega,by omega,by show dl 0≤_;rw [yH];omega,fun h=>absurd rfl h⟩
 ·rw [if_neg h];exact⟨by omega,by omega,by simp,fun _=>a.reduced⟩
theorem aNn {a:Rat} (ha:qs a=true):Ev (fun K=>aAX K (Qr a)) true:=by
 obtain⟨a1,a2⟩:=zJ ha
 obtain⟨q1,q2,q3,q4⟩:=@aSy a
 rw [Qr_Z]
 generalize(if a.den=1 then(0:Int) else a.den)=q at *
 unfold aAX
 refine Ev.bind (aO2 (by omega)) ?_
 simp only [Bool.not_true,bU]
 refine Ev.bind (aO2 (by omega)) ?_
 simp only [Bool.not_true,bU,wI,dF (show¬q<0 by omega),aCo,oB,dF q1,aEQ]
 by_cases h:q=0
 ·simp only [dT h,cA];exact Ev.pure _
 ·simp only [dF h,bU]
  refine Ev.bind (aMs (by omega) (by omega)) ?_
  rw [q4 h]
  simp only [aCo,oB]
  exact Ev.pure _
theorem aGv {a b:Rat} {r:Int} (h:aPT a b=some r):Ct Tryz.prog aG1 [.va (eQ a),.va (eQ b)] (.vc (pI .i64 r)):=by
 obtain⟨h1,h2,rfl⟩:=aB7 h
 obtain⟨K,hK⟩:=(aJ0 h1 h2).get
 exact aGE hK
theorem vB {a:Rat} {r:Bool} (h:aEI a=some r):Ct Tryz.prog aJR [.va (eQ a)] (.vc (pB r)):=by
 obtain⟨h1,rfl⟩:=aId h
 obtain⟨K,hK⟩:=(aNn h1).get
 exact aIE hK
end Go.Proofs.YtldhbdgfpjoamaaGreat
