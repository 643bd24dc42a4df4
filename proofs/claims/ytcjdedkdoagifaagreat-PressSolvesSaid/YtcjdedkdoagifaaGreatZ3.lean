/- Texts of the proof, part 3: P5 P6 P7 P8 R1 RZ PR L1 FR FJ PC. -/
import Derived.Test.YtcjdedkdoagifaaGreatRows
import Derived.WalkKit
import Derived.ProofKit
import Derived.OpenShut
import Derived.Test.YtcjdedkdoagifaaGreatZ2
set_option linter.unusedVariables false
namespace Go.Proofs.YtcjdedkdoagifaaGreat
/-- The guess is too great. -/
theorem aIG {P V X Y w Q g:Int} (hP:0<P) (hV1:X*P≤V) (hw2:w<(Y+1)*P) (hQ1:Q*V≤w) (hg:0≤g) (h:Y+1≤g*X) (hV:0≤V):Q<g:=by
 rcases Int.lt_or_le Q g with h1|h1
 ·exact h1
 ·exfalso
  have a:g*V≤Q*V:=Int.mul_le_mul_of_nonneg_right h1 hV
  have b:(Y+1)*P≤g*X*P:=Int.mul_le_mul_of_nonneg_right h (by omega)
  have c:g*(X*P)≤g*V:=Int.mul_le_mul_of_nonneg_left hV1 hg
  rw [Int.mul_assoc] at b
  omega
theorem aIr {P V X Y w Q g:Int} (hP:0<P) (hV2:V<(X+1)*P) (hw1:Y*P≤w) (hQ2:w<(Q+1)*V) (hg:g≤X) (h:g*X≤Y) (hQ:0≤Q) (hV:0≤V):g≤Q+1:=by
 rcases Int.lt_or_le (Q+1) g with h1|h1
 ·exfalso
  have a:(Q+1)*V≤(g-1)*V:=Int.mul_le_mul_of_nonneg_right (by omega) hV
  have b:(g-1)*V≤(g-1)*((X+1)*P):=Int.mul_le_mul_of_nonneg_left (by omega) (by omega)
  have c:g*X*P≤Y*P:=Int.mul_le_mul_of_nonneg_right h (by omega)
  have d:(g-1)*((X+1)*P)=g*X*P+(g-X-1)*P:=by grind
  have e:(g-X-1)*P≤(-1)*P:=Int.mul_le_mul_of_nonneg_right (by omega) (by omega)
  omega
 ·exact h1
theorem u8 {a b c:Int} (hc:0<c) (h:a*c<b*c):a<b:=Int.lt_of_mul_lt_mul_right h (by omega)
theorem aGc {b v u:List Int} {N j:Nat} {P V w Q v1 v2 u2 top:Int} (hb:b.length=N+2) (hb2:b.length≤9000000000000) (hvl:v.length=N+2) (huj:j+N<u.length) (hj:j≤9000000000000) (e1:v.getD (N+1) 0=v1) (e2:v.getD N 0=v2) (e3:u.getD (j+N) 0=u2)
  (hP:0<P) (hV:0≤V) (hv1:500000000≤v1) (hv1':v1<1000000000) (hv2:0≤v2) (hv2':v2<1000000000) (hu2:0≤u2) (hu2':u2<1000000000)
  (hV1:(v1*1000000000+v2)*P≤V) (hV2:V<(v1*1000000000+v2+1)*P) (hw1:(top*1000000000+u2)*P≤w) (hw2:w<(top*1000000000+u2+1)*P) (hwV:w<V*1000000000) (hQ:0≤Q) (hQ1:Q*V≤w) (hQ2:w<(Q+1)*V):
  ∀(n:Nat) (g r:Int),0≤r→r<1000000000→1000000000≤r+n*500000000→g*v1+r=top→Q≤g→g≤1000000001→
  ∃g',(Q≤g'∧g'≤Q+1∧g'<1000000000)∧∀K k,n<k→eV K b v u (j:Int) k g r=some g'
 |0,g,r,h0,h1,h2,_,_,_=>by omega
 |n+1,g,r,h0,h1,h2,h3,h4,h5=>by
  have QB:Q<1000000000:=by
   have hVpos:0<V:=by
    rcases Int.lt_or_le 0 V with h|h
    ·exact h
    ·have:V=0:=by omega
     subst this
     omega
   exact u8 hVpos (by rw [Int.mul_comm 1000000000 V];omega)
  have htop:top≤v1*1000000000+v2:=by
   have t1:(top*1000000000)*P≤(top*1000000000+u2)*P:=Int.mul_le_mul_of_nonneg_right (by omega) (by omega)
   have t2:(top*1000000000)*P<((v1*1000000000+v2+1)*1000000000)*P:=by
    have:(v1*1000000000+v2+1)*1000000000*P=(v1*1000000000+v2+1)*P*1000000000:=by grind
    rw [this]
    omega
   have t3:=u8 hP t2
   omega
  have c0:aY ((b.length:Int)-1)=some ((N+1:Nat):Int):=ckN (m:=0) (by omega) (by omega)
  have c1:=dA (xs:=v) (i:=N+1) (by omega)
  rw [e1] at c1
  have c2:aY ((b.length:Int)-2)=some ((N:Nat):Int):=ckN (m:=0) (by omega) (by omega)
  have c3:=dA (xs:=v) (i:=N) (by omega)
  rw [e2] at c3
  have c4:aY ((j:Int)+(b.length:Int))=some ((j+N+2:Nat):Int):=ckN (m:=0) (by omega) (by omega)
  have c5:aY (((j+N+2:Nat):Int)-2)=some ((j+N:Nat):Int):=ckN (m:=0) (by omega) (by omega)
  have c6:=dA (xs:=u) (i:=j+N) huj
  rw [e3] at c6
  have c7:aY (r+v1)=some (r+v1):=lL (by omega)
  have c8:aY (g-1)=some (g-1):=lL (by omega)
  have less:Q<g→∃g',(Q≤g'∧g'≤Q+1∧g'<1000000000)∧∀K k,n<k→(bif decide (1000000000≤r+v1) then some (g-1) else eV K b v u (j:Int) k (g-1) (r+v1))=some g':=by
   intro hlt
   have h3':(g-1)*v1+(r+v1)=top:=by rw [Int.sub_mul];omega
   by_cases hr:1000000000≤r+v1
   ·have hg1:(g-1)*v1<1000000000*v1:=by omega
    have hg2:g-1<1000000000:=u8 (by omega) hg1
    have hg3:(g-1)*(v1*1000000000+v2)≤top*1000000000+u2:=by
     have m1:(g-1)*v2≤999999999*999999999:=Int.mul_le_mul (by omega) (by omega) hv2 (by omega)
     have m2:(g-1)*(v1*1000000000+v2)=((g-1)*v1)*1000000000+(g-1)*v2:=by grind
     rw [m2]
     omega
    refine⟨g-1,⟨by omega,aIr hP hV2 hw1 hQ2 (by omega) hg3 hQ hV,hg2⟩,fun K k hk=>?_⟩
    rw [dT hr,cC]
   ·obtain⟨g',i1,i2⟩:=aGc hb hb2 hvl huj hj e1 e2 e3 hP hV hv1 hv1' hv2 hv2' hu2 hu2' hV1 hV2 hw1 hw2 hwV hQ hQ1 hQ2 n (g-1) (r+v1) (by omega) (by omega) (by omega) h3' (by omega) (by omega)
    refine⟨g',i1,fun K k hk=>?_⟩
    rw [dF hr,bV]
    exact i2 K k hk
  by_cases hg:1000000000≤g
  ·obtain⟨g',i1,i2⟩:=less (by omega)
   refine⟨g',i1,fun K k hk=>?_⟩
   obtain⟨k',rfl,_⟩:=bG hk
   simp only [eV,dT hg,cC,oB,c0,c1,c7,c8]
   exact i2 K k' (by omega)
  ·have m:=aFt (x:=g) (y:=v2) (by omega) (by omega) hv2 hv2'
   have c9:aY (g*v2)=some (g*v2):=lL (by omega)
   have c10:aY (r*1000000000)=some (r*1000000000):=lL (by omega)
   have c11:aY (r*1000000000+u2)=some (r*1000000000+u2):=lL (by omega)
   have m2:g*(v1*1000000000+v2)=(g*v1)*1000000000+g*v2:=by grind
   by_cases hc:r*1000000000+u2<g*v2
   ·obtain⟨g',i1,i2⟩:=less (aIG hP hV1 hw2 hQ1 (by omega) (by rw [m2];omega) hV)
    refine⟨g',i1,fun K k hk=>?_⟩
    obtain⟨k',rfl,_⟩:=bG hk
    simp only [eV,dF hg,bV,cC,oB,c0,c1,c2,c3,c4,c5,c6,c7,c8,c9,c10,c11,dT hc]
    exact i2 K k' (by omega)
   ·refine⟨g,⟨h4,aIr hP hV2 hw1 hQ2 (by omega) (by rw [m2];omega) hQ hV,by omega⟩,fun K k hk=>?_⟩
    obtain⟨k',rfl,_⟩:=bG hk
    simp only [eV,dF hg,bV,oB,c2,c3,c4,c5,c6,c9,c10,c11,dF hc]
structure aLN (u0 v:List Int) (j:Nat) (g:Int) (u:List Int) (c:Int) (i:Nat):Prop where
 len:u.length=u0.length
 ok:l4 u
 c0:0≤c
 c1:c<1000000000
 same:∀s,s<j∨j+i≤s→u.getD s 0=u0.getD s 0
 val:W u j i-c*PB i=W u0 j i-g*W v 0 i
theorem aLN.step {u0 v u:List Int} {j i:Nat} {g c x c':Int} (h:aLN u0 v j g u c i) (hl:j+i<u0.length) (hx0:0≤x) (hx1:x<1000000000) (h0:0≤c') (h1:c'<1000000000) (hv:x=u.getD (j+i) 0-g*v.getD i 0-c+c'*1000000000):aLN u0 v j g (u.set (j+i) x) c' (i+1) where
 len:=by simpa using h.len
 ok:=h.ok.set hx0 hx1
 c0:=h0
 c1:=h1
 same:=fun s hs=>by rw [fT (by omega)];exact h.same s (by omega)
 val:=by
  have hlen:=h.len
  have hs:=h.same (j+i) (.inr (Nat.le_refl _))
  have hval:=h.val
  rw [eE,eE,eE,eR (by omega),yG (.inr (by omega)),Nat.zero_add]
  simp only [PB]
  rw [hs] at hv
  grind
theorem aDP {b v u0:List Int} {j:Nat} {g:Int} (hg0:0≤g) (hg1:g<1000000000) (hv:l4 v) (hvl:b.length≤v.length) (hl:j+b.length≤u0.length) (hL:u0.length≤9000000000000):∀(t i:Nat) (u:List Int) (c:Int),i+t=b.length→aLN u0 v j g u c i→
  ∃u' c',aLN u0 v j g u' c' b.length∧∀K k,t<k→fV K b v (j:Int) g k u c (i:Int)=some (u',c')
 |0,i,u,c,hi,hP=>by
  have:i=b.length:=by omega
  subst this
  refine⟨u,c,hP,fun K k hk=>?_⟩
  obtain⟨k',rfl,_⟩:=bG hk
  simp [fV]
 |t+1,i,u,c,hi,hP=>by
  have hlen:=hP.len
  have c0:=hP.c0
  have c1:=hP.c1
  have hu:=hP.ok (j+i)
  have hvi:=hv i
  have m:=aFt hg0 hg1 hvi.1 hvi.2
  have e1:decide ((i:Int)<(b.length:Int))=true:=dT (by omega)
  have e2:aY ((i:Int)+(j:Int))=some ((j+i:Nat):Int):=ckN (m:=0) (by omega) (by omega)
  have e3:=dA (xs:=u) (i:=j+i) (by omega)
  have e4:=dA (xs:=v) (i:=i) (by omega)
  have e5:aY (g*v.getD i 0)=some (g*v.getD i 0):=lL (by omega)
  have e6:aY (u.getD (j+i) 0-g*v.getD i 0)=some (u.getD (j+i) 0-g*v.getD i 0):=lL (by omega)
  have e8:aY ((i:Int)+1)=some ((i+1:Nat):Int):=ckN (m:=0) (by omega) (by omega)
  have e9:∀x,p9 u ((j+i:Nat):Int) x=some (u.set (j+i) x):=fun x=>uC (by omega)
  obtain⟨z,hz⟩:∃z,u.getD (j+i) 0-g*v.getD i 0-c=z:=⟨_,rfl⟩
  have e7:aY (u.getD (j+i) 0-g*v.getD i 0-c)=some z:=by rw [hz];exact lL (by omega)
  by_cases hneg:z<0
  ·have f1:aY (-z)=some (-z):=lL (by omega)
   have f2:aY (-z+1000000000)=some (-z+1000000000):=lL (by omega)
   have f3:aY (-z+1000000000-1)=some (-z+1000000000-1):=lL (by omega)
   have f4:yJ (-z+1000000000-1) 1000000000=some ((-z+1000000000-1)/1000000000):=t8 (by omega) (by omega) (by omega)
   have f5:aY ((-z+1000000000-1)/1000000000*1000000000)=some ((-z+1000000000-1)/1000000000*1000000000):=lL (by omega)
   have f6:aY (z+(-z+1000000000-1)/1000000000*1000000000)=some (z+(-z+1000000000-1)/1000000000*1000000000):=lL (by omega)
   obtain⟨u',c',h1,h2⟩:=aDP hg0 hg1 hv hvl hl hL t (i+1) _ _ (by omega) (hP.step (x:=z+(-z+1000000000-1)/1000000000*1000000000) (c':=(-z+1000000000-1)/1000000000) (by omega) (by omega) (by omega) (by omega) (by omega) (by omega))
   refine⟨u',c',h1,fun K k hk=>?_⟩
   obtain⟨k',rfl,_⟩:=bG hk
   simp only [fV,e1,e2,e3,e4,e5,e6,e7,e8,e9,f1,f2,f3,f4,f5,f6,dT hneg,cC,oB]
   exact h2 K k' (by omega)
  ·obtain⟨u',c',h1,h2⟩:=aDP hg0 hg1 hv hvl hl hL t (i+1) _ _ (by omega) (hP.step (x:=z) (c':=0) (by omega) (by omega) (by omega) (by omega) (by omega) (by omega))
   refine⟨u',c',h1,fun K k hk=>?_⟩
   obtain⟨k',rfl,_⟩:=bG hk
   simp only [fV,e1,e2,e3,e4,e5,e6,e7,e8,e9,dF hneg,cC,bV,oB]
   exact h2 K k' (by omega)
structure aIC (u0 v:List Int) (j:Nat) (u:List Int) (c:Int) (i:Nat):Prop where
 len:u.length=u0.length
 ok:∀s,s<j+v.length→0≤u.getD s 0∧u.getD s 0<1000000000
 c0:0≤c
 c1:c≤1
 same:∀s,s<j∨j+i≤s→u.getD s 0=u0.getD s 0
 val:W u j i+c*PB i=W u0 j i+W v 0 i
theorem aIC.step {u0 v u:List Int} {j i:Nat} {c x c':Int} (h:aIC u0 v j u c i) (hl:j+i<u0.length) (hx0:0≤x) (hx1:x<1000000000) (h0:0≤c') (h1:c'≤1) (hv:x+c'*1000000000=u.getD (j+i) 0+v.getD i 0+c):aIC u0 v j (u.set (j+i) x) c' (i+1) where
 len:=by simpa using h.len
 ok:=fun s hs=>by
  rw [aAk];split
  ·exact⟨hx0,hx1⟩
  ·exact h.ok s hs
 c0:=h0
 c1:=h1
 same:=fun s hs=>by rw [fT (by omega)];exact h.same s (by omega)
 val:=by
  have hlen:=h.len
  have hs:=h.same (j+i) (.inr (Nat.le_refl _))
  have hval:=h.val
  rw [eE,eE,eE,eR (by omega),yG (.inr (by omega)),Nat.zero_add]
  simp only [PB]
  rw [hs] at hv
  grind
theorem aGk {b v u0:List Int} {j:Nat} (hv:l4 v) (hvl:b.length=v.length) (hl:j+b.length≤u0.length) (hL:u0.length≤9000000000000):∀(t i:Nat) (u:List Int) (c:Int),i+t=b.length→aIC u0 v j u c i→
  ∃u' c',aIC u0 v j u' c' b.length∧∀K k,t<k→jI K b v (j:Int) k u c (i:Int)=some (u',c')
 |0,i,u,c,hi,hP=>by
  have:i=b.length:=by omega
  subst this
  refine⟨u,c,hP,fun K k hk=>?_⟩
  obtain⟨k',rfl,_⟩:=bG hk
  simp [jI]
 |t+1,i,u,c,hi,hP=>by
  have hlen:=hP.len
  have c0:=hP.c0
  have c1:=hP.c1
  have hu:=hP.ok (j+i) (by omega)
  have hvi:=hv i
  have e1:decide ((i:Int)<(b.length:Int))=true:=dT (by omega)
  have e2:aY ((i:Int)+(j:Int))=some ((j+i:Nat):Int):=ckN (m:=0) (by omega) (by omega)
  have e3:=dA (xs:=u) (i:=j+i) (by omega)
  have e4:=dA (xs:=v) (i:=i) (by omega)
  have e5:aY (u.getD (j+i) 0+v.getD i 0)=some (u.getD (j+i) 0+v.getD i 0):=lL (by omega)
  have e6:aY (u.getD (j+i) 0+v.getD i 0+c)=some (u.getD (j+i) 0+v.getD i 0+c):=lL (by omega)
  have e7:xF (u.getD (j+i) 0+v.getD i 0+c) 1000000000=some ((u.getD (j+i) 0+v.getD i 0+c)%1000000000):=oP (by omega) (by omega)
  have e9:yJ (u.getD (j+i) 0+v.getD i 0+c) 1000000000=some ((u.getD (j+i) 0+v.getD i 0+c)/1000000000):=t8 (by omega) (by omega) (by omega)
  have e8:aY ((i:Int)+1)=some ((i+1:Nat):Int):=ckN (m:=0) (by omega) (by omega)
  have e10:∀x,p9 u ((j+i:Nat):Int) x=some (u.set (j+i) x):=fun x=>uC (by omega)
  obtain⟨u',c',h1,h2⟩:=aGk hv hvl hl hL t (i+1) _ _ (by omega) (hP.step (x:=(u.getD (j+i) 0+v.getD i 0+c)%1000000000) (c':=(u.getD (j+i) 0+v.getD i 0+c)/1000000000) (by omega) (by omega) (by omega) (by omega) (by omega) (by omega))
  refine⟨u',c',h1,fun K k hk=>?_⟩
  obtain⟨k',rfl,_⟩:=bG hk
  simp only [jI,e1,e2,e3,e4,e5,e6,e7,e8,e9,e10,cC,oB]
  exact h2 K k' (by omega)
structure aF1 (m n:Nat) (v:List Int) (S:Int) (q u:List Int) (J:Nat):Prop where
 ql:q.length=m-n+1
 ul:u.length=m+1
 uok:l4 u
 qok:∀s,J≤s→0≤q.getD s 0∧q.getD s 0<1000000000
 lt:vD u<vD v*PB J
 val:S=vD v*(PB J*W q J (m-n+1-J))+vD u
theorem aI6 {u:List Int} {k c:Nat} (hu:l4 u) (h:W u 0 (k+c)<PB k):W u 0 (k+c)=W u 0 k:=by
 rw [xC] at h ⊢
 have h1:=(aAR (hu.dr 0 k)).1
 have h2:=(aAR (hu.dr (0+k) c)).1
 have hp:=sZ k
 rcases Int.lt_or_le 0 (W u (0+k) c) with h3|h3
 ·have:PB k*1≤PB k*W u (0+k) c:=Int.mul_le_mul_of_nonneg_left h3 (by omega)
  omega
 ·have:W u (0+k) c=0:=by omega
  rw [this];simp
theorem aF1.next {m n j:Nat} {v q u u4:List Int} {S Q w:Int} (h:aF1 m n v S q u (j+1)) (hj:j+1≤m-n+1) (hnm:n≤m) (hv:l4 v) (hvl:v.length=n) (hw:W u j (n+1)=w) (hQ:0≤Q) (hQB:Q<1000000000) (hQ1:Q*vD v≤w) (hQ2:w<(Q+1)*vD v)
  (h1:u4.length=m+1) (h2:l4 u4) (h3:∀s,s<j∨j+n<s→u4.getD s 0=u.getD s 0) (h4:W u4 j (n+1)=w-Q*vD v):aF1 m n v S (q.set j Q) u4 j:=by
 have hV:=hv.lt
 rw [hvl] at hV
 have hR:W u 0 (m+1)=W u 0 j+PB j*w:=by
  have hlt:=h.lt
  unfold vD at hlt hV
  rw [h.ul] at hlt
  have hb:W v 0 v.length*PB (j+1)≤PB n*PB (j+1):=Int.mul_le_mul_of_nonneg_right (by omega) (by have:=sZ (j+1);omega)
  rw [←aBr,show n+(j+1)=j+(n+1) by omega] at hb
  obtain⟨c,hc⟩:∃c,m+1=(j+(n+1))+c:=⟨m-j-n,by omega⟩
  rw [hc] at hlt ⊢
  rw [aI6 h.uok (by omega),xC,Nat.zero_add,hw]
 have hR4:W u4 0 (m+1)=W u 0 j+PB j*(w-Q*vD v):=by
  obtain⟨c,hc⟩:∃c,m+1=(j+(n+1))+c:=⟨m-j-n,by omega⟩
  have hz:W u4 (j+(n+1)) c=W u (j+(n+1)) c:=aCG fun s _=>h3 _ (.inr (by omega))
  have hz0:PB (j+(n+1))*W u (j+(n+1)) c=0:=by
   have e:=hR
   rw [hc,xC,xC u 0 j,Nat.zero_add,Nat.zero_add,hw] at e
   omega
  have hl:W u4 0 j=W u 0 j:=aCG fun s hs=>by rw [Nat.zero_add];exact h3 s (.inl hs)
  rw [hc,xC,xC u4 0 j,Nat.zero_add,Nat.zero_add,hz,hz0,hl,h4]
  omega
 have hlo:=(aAR (h.uok.dr 0 j)).2
 have hlo0:=(aAR (h.uok.dr 0 j)).1
 refine⟨by simpa using h.ql,h1,h2,fun s hs=>?_,?_,?_⟩
 ·rw [aAk]
  by_cases e:s=j
  ·rw [if_pos ⟨e,by have:=h.ql;omega⟩];exact⟨hQ,hQB⟩
  ·rw [if_neg (fun x=>e x.1)];exact h.qok s (by omega)
 ·show W u4 0 u4.length<_
  rw [h1,hR4]
  have:PB j*(w-Q*vD v)≤PB j*(vD v-1):=Int.mul_le_mul_of_nonneg_left (by rw [Int.add_mul] at hQ2;omega) (by omega)
  have e:PB j*(vD v-1)=vD v*PB j-PB j:=by grind
  omega
 ·have hval:=h.val
  have e1:vD u=W u 0 (m+1):=by unfold vD;rw [h.ul]
  have e2:vD u4=W u4 0 (m+1):=by unfold vD;rw [h1]
  rw [e1,hR] at hval
  have hql:=h.ql
  rw [e2,hR4,show m-n+1-j=(m-n+1-(j+1))+1 by omega,aCf,eR (by omega),yG (.inl (by omega))]
  simp only [PB] at hval
  rw [hval]
  grind
theorem aFu {b v:List Int} {N m:Nat} {S:Int} (hb:b.length=N+2) (hL:m≤900000000000) (hnm:N+2≤m) (hv:l4 v) (hvl:v.length=N+2) (hv1:500000000≤v.getD (N+1) 0):∀(J:Nat) (q u:List Int),J≤m-(N+2)+1→aF1 m (N+2) v S q u J→
  ∃q' u',aF1 m (N+2) v S q' u' 0∧vV (fun K k=>fG K b v k q u ((J:Int)-1)) (q',u')
 |0,q,u,_,h=>⟨q,u,h,vV.of 1 fun K k hk=>by
   obtain⟨k',rfl,_⟩:=bG (n:=0) hk
   simp [fG]⟩
 |j+1,q,u,hJ,h=>by
  have hul:=h.ul
  have hql:=h.ql
  obtain⟨v1,e1⟩:∃x,v.getD (N+1) 0=x:=⟨_,rfl⟩
  obtain⟨v2,e2⟩:∃x,v.getD N 0=x:=⟨_,rfl⟩
  obtain⟨u2,e3⟩:∃x,u.getD (j+N) 0=x:=⟨_,rfl⟩
  obtain⟨u1,e4⟩:∃x,u.getD (j+N+1) 0=x:=⟨_,rfl⟩
  obtain⟨u0,e5⟩:∃x,u.getD (j+N+2) 0=x:=⟨_,rfl⟩
  have d1:=hv (N+1);have d2:=hv N;have d3:=h.uok (j+N);have d4:=h.uok (j+N+1);have d5:=h.uok (j+N+2)
  rw [e1] at d1 hv1;rw [e2] at d2;rw [e3] at d3;rw [e4] at d4;rw [e5] at d5
  have hP:=sZ N
  have hVd:vD v=W v 0 N+(v1*1000000000+v2)*PB N:=by
   unfold vD
   rw [hvl,xC,Nat.zero_add,W2,e1,e2,Int.mul_comm (PB N)];grind
  have hwl:=aAR (h.uok.dr j N)
  have hvl2:=aAR (hv.dr 0 N)
  obtain⟨w,hw⟩:∃x,W u j (N+2+1)=x:=⟨_,rfl⟩
  have hwd:w=W u j N+((u0*1000000000+u1)*1000000000+u2)*PB N:=by
   rw [←hw,show N+2+1=N+3 by omega,xC,aCf,aCf,W1,e3,e4,show j+N+1+1=j+N+2 by omega,e5];grind
  have hVn:=hv.nonneg
  have hVpos:0<vD v:=by
   have:1*PB N≤(v1*1000000000+v2)*PB N:=Int.mul_le_mul_of_nonneg_right (by omega) (by omega)
   omega
  obtain⟨V,hV⟩:∃x,vD v=x:=⟨_,rfl⟩
  have hVlt:=hv.lt
  rw [hvl] at hVlt
  rw [hV] at hVd hVpos hVn hVlt
  have hwV:w<V*1000000000:=by
   have hlt:=h.lt
   rw [hV] at hlt
   have hb':V*PB (j+1)≤PB (N+2)*PB (j+1):=Int.mul_le_mul_of_nonneg_right (by omega) (by have:=sZ (j+1);omega)
   rw [←aBr,show N+2+(j+1)=j+(N+2+1) by omega] at hb'
   obtain⟨c,hc⟩:∃c,m+1=(j+(N+2+1))+c:=⟨m-j-(N+2),by omega⟩
   unfold vD at hlt
   rw [hul,hc] at hlt
   rw [aI6 h.uok (by omega),xC,Nat.zero_add,hw] at hlt
   have h0:=(aAR (h.uok.dr 0 j)).1
   simp only [PB] at hlt
   have:w*PB j<V*1000000000*PB j:=by
    rw [Int.mul_assoc,Int.mul_comm 1000000000,Int.mul_comm w];omega
   exact u8 (sZ j) this
  have hw0:0≤w:=by rw [←hw];exact(aAR (h.uok.dr j _)).1
  obtain⟨Q,hQ⟩:∃x,w/V=x:=⟨_,rfl⟩
  have hQ0:0≤Q:=by rw [←hQ];exact Int.ediv_nonneg hw0 (by omega)
  have hdm:=Int.mul_ediv_add_emod w V
  have hm0:=Int.emod_nonneg w (show V≠0 by omega)
  have hm1:=Int.emod_lt_of_pos w hVpos
  rw [hQ] at hdm
  have hQ1:Q*V≤w:=by rw [Int.mul_comm];omega
  have hQ2:w<(Q+1)*V:=by rw [Int.add_mul,Int.mul_comm];omega
  have hQB:Q<1000000000:=u8 hVpos (by rw [Int.mul_comm 1000000000 V];omega)
  obtain⟨top,htop⟩:∃x,u0*1000000000+u1=x:=⟨_,rfl⟩
  have hV1:(v1*1000000000+v2)*PB N≤V:=by omega
  have hV2:V<(v1*1000000000+v2+1)*PB N:=by rw [Int.add_mul,Int.one_mul];omega
  have hw1:(top*1000000000+u2)*PB N≤w:=by rw [←htop];omega
  have hw2:w<(top*1000000000+u2+1)*PB N:=by rw [←htop,Int.add_mul _ 1,Int.one_mul];omega
  have htlim:top≤v1*1000000000+v2:=by
   have t1:(top*1000000000)*PB N≤(top*1000000000+u2)*PB N:=Int.mul_le_mul_of_nonneg_right (by omega) (by omega)
   have t2:(top*1000000000)*PB N<((v1*1000000000+v2+1)*1000000000)*PB N:=by
    have:(v1*1000000000+v2+1)*1000000000*PB N=(v1*1000000000+v2+1)*PB N*1000000000:=by grind
    rw [this]
    omega
   have t3:=u8 hP t2
   omega
  obtain⟨g0,hg0⟩:∃x,top/v1=x:=⟨_,rfl⟩
  obtain⟨r0,hr0⟩:∃x,top%v1=x:=⟨_,rfl⟩
  have hdm2:=Int.mul_ediv_add_emod top v1
  have hr1:=Int.emod_nonneg top (show v1≠0 by omega)
  have hr2:=Int.emod_lt_of_pos top (show 0<v1 by omega)
  rw [hg0,hr0] at hdm2
  rw [hr0] at hr1 hr2
  have hg00:0≤g0:=by rw [←hg0];exact Int.ediv_nonneg (by omega) (by omega)
  have hgq:Q<g0+1:=by
   refine aIG hP hV1 hw2 hQ1 (by omega) ?_ (by omega)
   have m1:(g0+1)*(v1*1000000000+v2)=(v1*g0+v1)*1000000000+(g0+1)*v2:=by grind
   have m2:0≤(g0+1)*v2:=Int.mul_nonneg (by omega) d2.1
   rw [m1]
   omega
  have hgm:g0≤1000000001:=by
   have:g0*v1<1000000002*v1:=by rw [Int.mul_comm g0];omega
   have:=u8 (show 0<v1 by omega) this
   omega
  obtain⟨g,⟨hg1,hg2,hg3⟩,hgF⟩:=aGc (b:=b) (v:=v) (u:=u) (j:=j) hb (by omega) hvl (by omega) (by omega) e1 e2 e3 hP (Int.le_of_lt hVpos) hv1 d1.2 d2.1 d2.2 d3.1 d3.2 hV1 hV2 hw1 hw2 hwV hQ0 hQ1 hQ2 2 g0 r0 hr1 (by omega) (by omega) (by rw [Int.mul_comm];omega) (by omega) hgm
  obtain⟨u',c',hS,hSF⟩:=aDP (b:=b) (v:=v) (u0:=u) (j:=j) (g:=g) (by omega) hg3 hv (by omega) (by omega) (by omega) b.length 0 u 0 (by omega) ⟨rfl,h.uok,by omega,by omega,fun _ _=>rfl,by simp [W]⟩
  have hSl:=hS.len
  have hSc0:=hS.c0
  have hSc1:=hS.c1
  have hSv:=hS.val
  rw [hb] at hSv
  have hSs:u'.getD (j+N+2) 0=u0:=by rw [hS.same _ (.inr (by omega)),e5]
  obtain⟨t,ht⟩:∃x,u0-c'=x:=⟨_,rfl⟩
  have hVW:W v 0 (N+2)=V:=by rw [←hV];unfold vD;rw [hvl]
  rw [hVW] at hSv
  have hWn:w=W u j (N+2)+u0*PB (N+2):=by rw [←hw,eE,←Nat.add_assoc,e5]
  have hWu':=aAR (hS.ok.dr j (N+2))
  have hPn:=sZ (N+2)
  have hD:W u' j (N+2)+t*PB (N+2)=w-g*V:=by rw [←ht,Int.sub_mul];omega
  have i1:decide (0≤(j:Int))=true:=dT (by omega)
  have i0:((j+1:Nat):Int)-1=(j:Int):=by omega
  have i2:aY ((j:Int)+(b.length:Int))=some ((j+N+2:Nat):Int):=ckN (m:=0) (by omega) (by omega)
  have i3:=dA (xs:=u) (i:=j+N+2) (by omega)
  rw [e5] at i3
  have i4:aY (u0*1000000000)=some (u0*1000000000):=lL (by omega)
  have i5:aY (((j+N+2:Nat):Int)-1)=some ((j+N+1:Nat):Int):=ckN (m:=0) (by omega) (by omega)
  have i6:=dA (xs:=u) (i:=j+N+1) (by omega)
  rw [e4] at i6
  have i7:aY (u0*1000000000+u1)=some top:=by rw [htop];exact lL (by omega)
  have i8:aY ((b.length:Int)-1)=some ((N+1:Nat):Int):=ckN (m:=0) (by omega) (by omega)
  have i9:=dA (xs:=v) (i:=N+1) (by omega)
  rw [e1] at i9
  have i10:yJ top v1=some g0:=by rw [←hg0];exact t8 (by omega) (by omega) (by omega)
  have i11:xF top v1=some r0:=by rw [←hr0];exact oP (by omega) (by omega)
  have i12:=dA (xs:=u') (i:=j+N+2) (by omega)
  rw [hSs] at i12
  have i13:aY (u0-c')=some t:=by rw [ht];exact lL (by omega)
  have i14:p9 u' ((j+N+2:Nat):Int) t=some (u'.set (j+N+2) t):=uC (by omega)
  have i15:bU (u'.set (j+N+2) t) ((j+N+2:Nat):Int)=some t:=by rw [dA (by simp;omega),eR (by omega)]
  have i16:aY ((j:Int)-1)=some ((j:Int)-1):=lL (by omega)
  have i17:=dA (xs:=q) (i:=j) (by omega)
  have i18:∀x,p9 q (j:Int) x=some (q.set j x):=fun x=>uC (by omega)
  have hgF':Ev (fun K=>eV K b v u (j:Int) K g0 r0) g:=⟨3,fun K hK=>hgF K K (by omega)⟩
  have hSF':Ev (fun K=>fV K b v (j:Int) g K u 0 0) (u',c'):=⟨b.length+1,fun K hK=>hSF K K (by omega)⟩
  by_cases hneg:t<0
  ·
   have hgQ:g=Q+1:=by
    have:t*PB (N+2)≤(-1)*PB (N+2):=Int.mul_le_mul_of_nonneg_right (by omega) (by omega)
    rcases Int.lt_or_le Q g with h1|h1
    ·omega
    ·have:g=Q:=by omega
     subst this
     omega
   obtain⟨u3,c3,hB,hBF⟩:=aGk (b:=b) (v:=v) (u0:=u'.set (j+N+2) t) (j:=j) hv (by omega) (by simp;omega) (by simp;omega) b.length 0 (u'.set (j+N+2) t) 0 (by omega)
    ⟨rfl,fun s hs=>by rw [fT (by omega)];exact hS.ok s,by omega,by omega,fun _ _=>rfl,by simp [W]⟩
   have hBl:=hB.len
   simp only [List.length_set] at hBl
   have hBs:u3.getD (j+N+2) 0=t:=by rw [hB.same _ (.inr (by omega)),eR (by omega)]
   have hBv:=hB.val
   rw [hb,yG (.inr (by omega)),hVW] at hBv
   have hWu3:=aAR (u:=u3) (j:=j) (n:=N+2) fun s hs=>hB.ok _ (by omega)
   have hx:t+c3=0:=by
    have hfin:W u3 j (N+2)+(t+c3)*PB (N+2)=w-Q*V:=by
     rw [hgQ,Int.add_mul,Int.one_mul] at hD
     rw [Int.add_mul];omega
    have hlim:w-Q*V<V:=by rw [Int.add_mul] at hQ2;omega
    rcases Int.lt_trichotomy (t+c3) 0 with hx|hx|hx
    ·have:(t+c3)*PB (N+2)≤(-1)*PB (N+2):=Int.mul_le_mul_of_nonneg_right (by omega) (by omega)
     omega
    ·exact hx
    ·have:1*PB (N+2)≤(t+c3)*PB (N+2):=Int.mul_le_mul_of_nonneg_right (by omega) (by omega)
     omega
   obtain⟨q',u'',h5,h6⟩:=aFu hb hL hnm hv hvl (by rw [e1];exact hv1) j (q.set j Q) (u3.set (j+N+2) (t+c3)) (by omega)
    (h.next hJ hnm hv hvl hw hQ0 hQB (by rw [hV];exact hQ1) (by rw [hV];exact hQ2) (by simp;omega) (fun s=>by
      rw [aAk]
      by_cases e:s=j+N+2
      ·rw [if_pos ⟨e,by omega⟩,hx];omega
      ·rw [if_neg (fun x=>e x.1)]
       rcases Nat.lt_or_ge s (j+N+2) with h1|h1
       ·exact hB.ok s (by omega)
       ·rw [hB.same s (.inr (by omega)),fT (by omega),hS.same s (.inr (by omega))];exact h.uok s) (fun s hs=>by
      rw [fT (by omega)]
      rw [hB.same s (by omega),fT (by omega),hS.same s (by omega)]) (by
      rw [eE,←Nat.add_assoc,eR (by omega),yG (.inr (by omega)),hV]
      rw [hgQ,Int.add_mul,Int.one_mul] at hD
      rw [Int.add_mul];omega))
   refine⟨q',u'',h5,vV.step ?_⟩
   have k1:aY (g-1)=some Q:=by rw [show g-1=Q by omega];exact lL (by omega)
   have k2:=dA (xs:=u3) (i:=j+N+2) (by omega)
   rw [hBs] at k2
   have hc30:=hB.c0
   have hc31:=hB.c1
   have k3:aY (t+c3)=some (t+c3):=lL (by omega)
   have k4:p9 u3 ((j+N+2:Nat):Int) (t+c3)=some (u3.set (j+N+2) (t+c3)):=uC (by omega)
   have hBF':Ev (fun K=>jI K b v (j:Int) K (u'.set (j+N+2) t) 0 0) (u3,c3):=⟨b.length+1,fun K hK=>hBF K K (by omega)⟩
   rw [i0]
   simp only [fG,i1,i2,i3,i4,i5,i6,i7,i8,i9,i10,i11,cC,oB]
   refine vV.bind hgF' ?_
   simp only [pX]
   refine vV.bind hSF' ?_
   simp only [p5,i2,i12,i13,i14,i15,dT hneg,cC,oB,k1]
   refine vV.bind hBF' ?_
   simp only [sT,i2,k2,k3,k4,i17,i18,i16,oB]
   exact h6
  ·have hgQ:g=Q:=by
    have:0≤t*PB (N+2):=Int.mul_nonneg (by omega) (by omega)
    rcases Int.lt_or_le Q g with h1|h1
    ·have:g=Q+1:=by omega
     subst this
     omega
    ·omega
   subst hgQ
   have hx:t=0:=by
    have hlim:w-g*V<V:=by rw [Int.add_mul] at hQ2;omega
    rcases Int.lt_or_le 0 t with hx|hx
    ·have:1*PB (N+2)≤t*PB (N+2):=Int.mul_le_mul_of_nonneg_right (by omega) (by omega)
     omega
    ·omega
   obtain⟨q',u'',h5,h6⟩:=aFu hb hL hnm hv hvl (by rw [e1];exact hv1) j (q.set j g) (u'.set (j+N+2) t) (by omega)
    (h.next hJ hnm hv hvl hw hQ0 hQB (by rw [hV];exact hQ1) (by rw [hV];exact hQ2) (by simp;omega) (hS.ok.set (by omega) (by omega)) (fun s hs=>by
      rw [fT (by omega)]
      rw [hS.same s (by omega)]) (by
      rw [eE,←Nat.add_assoc,eR (by omega),yG (.inr (by omega)),hV]
      omega))
   refine⟨q',u'',h5,vV.step ?_⟩
   rw [i0]
   simp only [fG,i1,i2,i3,i4,i5,i6,i7,i8,i9,i10,i11,cC,oB]
   refine vV.bind hgF' ?_
   simp only [pX]
   refine vV.bind hSF' ?_
   simp only [p5,i2,i12,i13,i14,i15,dF hneg,bV,oB,i17,i18,i16]
   exact h6
end Go.Proofs.YtcjdedkdoagifaaGreat
set_option linter.unusedVariables false
namespace Go.Proofs.YtcjdedkdoagifaaGreat
theorem aLi {b s:Int} (h0:1≤b) (h1:b<1000000000) (hs:s=1000000000/(b+1)):1≤s∧s≤500000000∧500000000≤s*b∧s*(b+1)≤1000000000:=by
 have d:=Int.mul_ediv_add_emod 1000000000 (b+1)
 have m0:=Int.emod_nonneg 1000000000 (show b+1≠0 by omega)
 have m1:=Int.emod_lt_of_pos 1000000000 (show 0<b+1 by omega)
 rw [←hs] at d
 have hs1:1≤s:=by
  rcases Int.lt_or_le 0 s with h|h
  ·exact h
  ·have:(b+1)*s≤0:=Int.mul_nonpos_of_nonneg_of_nonpos (by omega) (by omega)
   omega
 have hs2:2*s≤(b+1)*s:=Int.mul_le_mul_of_nonneg_right (by omega) (by omega)
 have e1:(b+1)*s=s*b+s:=by grind
 have e2:s*(b+1)=s*b+s:=by grind
 have e3:0≤(s-1)*(b-1):=Int.mul_nonneg (by omega) (by omega)
 have e4:(s-1)*(b-1)=s*b-s-b+1:=by grind
 refine⟨hs1,by omega,by omega,by omega⟩
theorem aFR {u:List Int} {n i:Nat} (h:i<n):(u.take n).getD i 0=u.getD i 0:=by
 simp only [List.getD_eq_getElem?_getD,List.getElem?_take];rw [if_pos h]
theorem l4.take {u:List Int} (h:l4 u) (n:Nat):l4 (u.take n):=fun i=>by
 rcases Nat.lt_or_ge i n with h1|h1
 ·rw [aFR h1];exact h i
 ·rw [vM (by simp;omega)];omega
theorem aJV {u:List Int} {n:Nat} (h:l4 u) (hn:n≤u.length) (hv:vD u<PB n):vD (u.take n)=vD u:=by
 obtain⟨c,hc⟩:=Nat.exists_eq_add_of_le hn
 have e:(u.take n).length=n:=by simp;omega
 unfold vD at *
 rw [e]
 rw [hc] at hv ⊢
 rw [aI6 h hv]
 exact aCG fun i hi=>by rw [Nat.zero_add];exact aFR hi
theorem aNK {a b:List Int} (ha:l4 a) (hb:l4 b) (tb:Top b) (hb2:2≤b.length) (hab:b.length≤a.length) (hL:a.length≤60000000000):
  ∃q r,q.length≤a.length∧r.length≤a.length∧l4 q∧l4 r∧vD q=vD a/vD b∧vD r=vD a%vD b∧Ev (fun K=>uV K a b) (q,r):=by
 obtain⟨N,hN⟩:∃N,b.length=N+2:=⟨b.length-2,by omega⟩
 have hbn:b≠[]:=by intro e;subst e;simp at hN
 obtain⟨b1,hb1⟩:∃x,b.getD (N+1) 0=x:=⟨_,rfl⟩
 have hb1d:=hb (N+1)
 rw [hb1] at hb1d
 have hb10:b1≠0:=by
  rcases tb with h|h
  ·exact absurd h hbn
  ·rw [hN,show N+2-1=N+1 by omega,hb1] at h;exact h
 obtain⟨s,hs⟩:∃x,1000000000/(b1+1)=x:=⟨_,rfl⟩
 obtain⟨hs1,hs2,hs3,hs4⟩:=aLi (b:=b1) (by omega) hb1d.2 hs.symm
 obtain⟨u,hul,huo,huv,huF⟩:=aFw (a:=a) (f:=s) ha (by omega) (by omega) hL
 obtain⟨vb,hvl,hvo,hvv,hvF⟩:=aFw (a:=b) (f:=s) hb (by omega) (by omega) (by omega)
 have hPN:=sZ (N+1)
 have hbv:vD b=W b 0 (N+1)+b1*PB (N+1):=by unfold vD;rw [hN,eE,Nat.zero_add,hb1]
 have hbw:=aAR (hb.dr 0 (N+1))
 have hVlt:vD vb<PB (N+2):=by
  rw [hvv]
  have h1:vD b<(b1+1)*PB (N+1):=by rw [Int.add_mul,Int.one_mul];omega
  have h2:s*vD b<s*((b1+1)*PB (N+1)):=Int.mul_lt_mul_of_pos_left h1 (by omega)
  have h3:s*(b1+1)*PB (N+1)≤1000000000*PB (N+1):=Int.mul_le_mul_of_nonneg_right hs4 (by omega)
  rw [Int.mul_assoc] at h3
  show _<PB (N+1)*1000000000
  omega
 have hv1:=hvo.take (N+2)
 have hvd:=aJV (n:=N+2) hvo (by omega) hVlt
 have hvtl:(vb.take (N+2)).length=N+2:=by simp;omega
 obtain⟨v,hv⟩:∃x,vb.take (N+2)=x:=⟨_,rfl⟩
 rw [hv] at hv1 hvd hvtl
 have hVs:vD v=s*vD b:=by rw [hvd,hvv]
 have hV1:500000000≤v.getD (N+1) 0:=by
  have e:vD v=W v 0 (N+1)+v.getD (N+1) 0*PB (N+1):=by unfold vD;rw [hvtl,eE,Nat.zero_add]
  have h1:=(aAR (hv1.dr 0 (N+1))).2
  have h2:s*(b1*PB (N+1))≤s*vD b:=Int.mul_le_mul_of_nonneg_left (by omega) (by omega)
  rw [←Int.mul_assoc] at h2
  have h3:s*b1*PB (N+1)<(v.getD (N+1) 0+1)*PB (N+1):=by rw [Int.add_mul _ 1,Int.one_mul];omega
  have:=u8 hPN h3
  omega
 have hbpos:=tb.pos hb hbn
 rw [hN,show N+2-1=N+1 by omega] at hbpos
 have start:aF1 a.length (N+2) v (s*vD a) (List.replicate (a.length-(N+2)+1) 0) u (a.length-(N+2)+1):=by
  refine⟨by simp,hul,huo,fun t _=>?_,?_,?_⟩
  ·simp only [List.getD_eq_getElem?_getD,List.getElem?_replicate];split<;>simp
  ·rw [huv,hVs]
   have h1:=ha.lt
   have e:a.length=(N+1)+(a.length-(N+2)+1):=by omega
   rw [e,aBr] at h1
   have hp:=sZ (a.length-(N+2)+1)
   have h2:PB (N+1)*PB (a.length-(N+2)+1)≤vD b*PB (a.length-(N+2)+1):=Int.mul_le_mul_of_nonneg_right hbpos (by omega)
   have h3:s*vD a<s*(vD b*PB (a.length-(N+2)+1)):=Int.mul_lt_mul_of_pos_left (by omega) (by omega)
   rw [←Int.mul_assoc] at h3
   exact h3
  ·rw [huv,Nat.sub_self,aP5];simp
 obtain⟨q,u',hP,hF⟩:=aFu (b:=b) (m:=a.length) hN (by omega) (by omega) hv1 hvtl hV1 _ _ _ (Nat.le_refl _) start
 have hql:=hP.ql
 have hu'l:=hP.ul
 have hqo:l4 q:=fun i=>hP.qok i (Nat.zero_le _)
 have hlt:=hP.lt
 have hval:=hP.val
 rw [hVs] at hlt hval
 simp only [PB,Int.mul_one,Int.one_mul,Nat.sub_zero] at hlt hval
 have hqv:vD q=W q 0 (a.length-(N+2)+1):=by unfold vD;rw [hql]
 rw [←hqv] at hval
 have hu'n:=hP.uok.nonneg
 have hu'lt:vD u'<PB (N+2):=by rw [←hVs,hvd] at hlt;omega
 have hto:=hP.uok.take (N+2)
 have htv:=aJV (n:=N+2) hP.uok (by omega) hu'lt
 have htl:(u'.take (N+2)).length=N+2:=by simp;omega
 obtain⟨r,r0,hrl,hro,hrv,hr0,hrF⟩:=aF2 (a:=u'.take (N+2)) (b:=s) hto (by omega) (by omega) (by omega)
 have hrho:vD u'=s*(vD a-vD b*vD q):=by
  rw [Int.mul_sub,←Int.mul_assoc];omega
 have hr:vD r=vD a-vD b*vD q:=by
  rw [hrv,htv,hrho,Int.mul_ediv_cancel_left _ (by omega)]
 have hrn:0≤vD r:=hro.nonneg
 have hrb:vD r<vD b:=by
  rw [hrho,←hr] at hlt
  rw [Int.mul_comm,Int.mul_comm s] at hlt
  exact u8 (by omega) hlt
 have hbp:0<vD b:=by omega
 refine⟨q,r,by omega,by omega,hqo,hro,?_,?_,?_⟩
 ·have e:vD a=vD r+vD b*vD q:=by omega
  rw [e,Int.add_mul_ediv_left _ _ (by omega),Int.ediv_eq_zero_of_lt hrn hrb,Int.zero_add]
 ·have e:vD a=vD r+vD b*vD q:=by omega
  rw [e,Int.add_mul_emod_self_left,Int.emod_eq_of_lt hrn hrb]
 ·have e1:aY ((b.length:Int)-1)=some ((N+1:Nat):Int):=ckN (m:=0) (by omega) (by omega)
  have e2:=dA (xs:=b) (i:=N+1) (by omega)
  rw [hb1] at e2
  have e3:aY (b1+1)=some (b1+1):=lL (by omega)
  have e4:yJ 1000000000 (b1+1)=some s:=by rw [←hs];exact t8 (by omega) (by omega) (by omega)
  have e5:slL vb 0 (b.length:Int)=some v:=by rw [hN,←hv];exact aHn (by omega)
  have e6:aY ((a.length:Int)-(b.length:Int))=some ((a.length-(N+2):Nat):Int):=ckN (m:=0) (by omega) (by omega)
  have e7:aY (((a.length-(N+2):Nat):Int)+1)=some ((a.length-(N+2)+1:Nat):Int):=ckN (m:=0) (by omega) (by omega)
  have e8:xI ((a.length-(N+2)+1:Nat):Int) (0:Int)=some (List.replicate (a.length-(N+2)+1) 0):=aAU (by omega)
  have e9:((a.length-(N+2):Nat):Int)=((a.length-(N+2)+1:Nat):Int)-1:=by omega
  have e10:slL u' 0 (b.length:Int)=some (u'.take (N+2)):=by rw [hN];exact aHn (by omega)
  simp only [uV,e1,e2,e3,e4,oB]
  refine Ev.bind huF (Ev.bind hvF ?_)
  simp only [e5,e6,e7,e8,oB]
  rw [e9]
  refine Ev.bind hF.ev ?_
  simp only [tS,e10,oB]
  exact Ev.bind hrF (Ev.pure _)
theorem aOx {n:Nat} (h:n≤18446744073709551615):IntKind.u64.wrap (n:Int)=(n:Int):=IntWalk.u64_in _ ⟨by omega,by omega⟩
theorem aI4 (m n:Nat):dl (m/n)≤dl m:=sD (Nat.div_le_self m n)
theorem aGM (m n:Nat):dl (m%n)≤dl m:=sD (Nat.mod_le m n)
theorem zC {n:Nat} (h:(cK n).length≤2):n<1000000000000000000:=by
 have:=aEy n
 have h2:=aC9 (a:=dl n) (b:=2) h
 have:PB 2=1000000000000000000:=by decide
 omega
theorem aEz {m n:Nat} (hn:0<n) (hL:dl m≤60000000000):Ev (fun K=>nX K (cK m) (cK n)) (Z (m/n:Nat),Z (m%n:Nat)):=by
 have dm:=cG m;have dn:=cG n
 have vm:=d6 m;have vn:=d6 n
 have tm:=oS m;have tn:=oS n
 have lm:(cK m).length=dl m:=rfl
 have ln:(cK n).length=dl n:=rfl
 have key:Ev (fun K=>mO K (cK m) (cK n)) (Z (m/n:Nat),Z (m%n:Nat)):=by
  unfold mO
  refine Ev.bind (zV dm dn tm tn (by omega)) ?_
  rw [vm,vn]
  unfold wC
  by_cases hlt:m<n
  ·rw [if_pos (by omega)]
   have h1:=yD false dm (by omega)
   rw [vm,Int.toNat_natCast,oI] at h1
   refine Ev.congr (g:=fun K=>(fA K false (cK m)).bind fun v8=>some ((⟨false,([]:List Int)⟩:aM),v8)) ?_ (fun K=>rfl)
   refine Ev.bind h1 ?_
   rw [Nat.div_eq_of_lt hlt,Nat.mod_eq_of_lt hlt]
   have:Z ((0:Nat):Int)=⟨false,[]⟩:=by rw [←oI];rfl
   rw [this]
   exact Ev.pure _
  ·have hc:decide ((if(m:Int)<n then(-1:Int) else if(n:Int)<m then 1 else 0)<0)=false:=by
    rw [if_neg (by omega)]
    split<;>rfl
   simp only [hc,bV]
   have hle:dl n≤dl m:=sD (by omega)
   have hn0:dl n≠0:=by rw [Ne,wG];omega
   by_cases h1:dl n=1
   ·have e1:(((cK n).length:Int)==1)=true:=qT (by omega)
    obtain⟨a1,a2⟩:=aBF h1
    have e2:=dA (xs:=cK n) (i:=0) (by omega)
    simp only [Int.natCast_zero] at e2
    rw [a1] at e2
    obtain⟨q,r,g1,g2,g3,g4,g5⟩:=aF2 (a:=cK m) (b:=(n:Int)) dm (by omega) (by omega) (by omega)
    rw [vm] at g3 g4
    have h2:=yD false g2 (by omega)
    rw [g3,oI] at h2
    simp only [e1,cC,e2,oB]
    refine Ev.bind g5 (Ev.bind h2 ?_)
    have hr:r=((m%n:Nat):Int):=by rw [g4];simp
    have hrlt:m%n<n:=Nat.mod_lt _ hn
    rw [hr,aOx (by omega),tR false (by omega),oB,oI]
    have:((((m:Int)/n).toNat:Nat):Int)=((m/n:Nat):Int):=by rw [←Int.natCast_ediv,Int.toNat_natCast]
    rw [this]
    exact Ev.pure _
   ·have e1:(((cK n).length:Int)==1)=false:=qF (by omega)
    obtain⟨q,r,g1,g2,g3,g4,g5,g6,g7⟩:=aNK dm dn tn (by omega) (by omega) (by omega)
    rw [vm,vn] at g5 g6
    have h2:=yD false g3 (by omega)
    have h3:=yD false g4 (by omega)
    rw [g5,oI] at h2
    rw [g6,oI] at h3
    simp only [e1,bV]
    refine Ev.bind g7 (Ev.bind h2 (Ev.bind h3 ?_))
    have e3:((((m:Int)/n).toNat:Nat):Int)=((m/n:Nat):Int):=by rw [←Int.natCast_ediv,Int.toNat_natCast]
    have e4:((((m:Int)%n).toNat:Nat):Int)=((m%n:Nat):Int):=by rw [←Int.natCast_emod,Int.toNat_natCast]
    rw [e3,e4]
    exact Ev.pure _
 unfold nX
 rw [aBQ dm,aBQ dn]
 simp only [oB]
 by_cases h1:(cK m).length≤2
 ·by_cases h2:(cK n).length≤2
  ·rw [if_pos h1,if_pos h2]
   simp only [cC,vm,vn]
   have b1:=zC h1
   have hd:=Nat.div_le_self m n
   have hm:=Nat.mod_le m n
   have e1:yJ (m:Int) (n:Int)=some ((m/n:Nat):Int):=by rw [t8 (by omega) (by omega) (by omega)];simp
   have e2:xF (m:Int) (n:Int)=some ((m%n:Nat):Int):=by rw [oP (by omega) (by omega)];simp
   simp only [e1,e2,oB]
   rw [aOx (by omega),aOx (by omega),tR false (by omega),tR false (by omega)]
   simp only [oB,oI]
   exact Ev.pure _
  ·rw [if_pos h1,if_neg h2]
   simp only [cC,bV]
   exact key
 ·rw [if_neg h1]
  simp only [bV]
  exact key
theorem aKd {x y:Int} (hy:y≠0) (hx:dl x.natAbs≤40000000000) (hy2:dl y.natAbs≤40000000000):Ev (fun K=>t0 K (Z x) (Z y)) (Z (x/y),Z (x%y)):=by
 have hyl:dl y.natAbs≠0:=by rw [Ne,wG];omega
 have e1:(((cK y.natAbs).length:Int)==0)=false:=qF (by show(dl y.natAbs:Int)≠0;omega)
 have hm0:=Nat.mod_lt x.natAbs (show 0<y.natAbs by omega)
 have hd:∀n:Nat,((Z (n:Int)).d.length:Int)=dl n:=fun n=>by rw [tF];simp
 have hdm:=aI4 x.natAbs y.natAbs
 have hmm:=aGM x.natAbs y.natAbs
 have hnd:=Nat.div_add_mod x.natAbs y.natAbs
 have bN:∀(q r:Nat),((if(x<0)↔(y<0) then(q:Int) else -(q:Int))=x/y)→((r:Int)=x%y)→Ev (fun K=>mL K (Z x) (Z y) (Z r) (Z q)) (Z (x/y),Z (x%y)):=by
  intro q r hq hr
  refine Ev.of fun K=>?_
  unfold mL
  rw [uU,uU,←hq,←hr]
  by_cases hs:(x<0)↔(y<0)
  ·have e:(decide (x<0) != decide (y<0))=false:=by simp [hs]
   rw [e,bV,if_pos hs]
   have:(Z (q:Int))=⟨false,(Z (q:Int)).d⟩:=by unfold Z;simp
   rw [←this]
  ·have e:(decide (x<0) != decide (y<0))=true:=by simp;exact hs
   rw [e,cC,if_neg hs]
   congr 2
   unfold Z
   rw [Int.natAbs_neg]
   congr 1
   have:(cK (q:Int).natAbs).length=dl q:=by simp [dl]
   rw [this]
   by_cases h0:q=0
   ·subst h0;rw [wX];rfl
   ·have:dl q≠0:=by rw [Ne,wG];exact h0
    rw [dT (by omega),dT (by omega)]
 have eT:∀z:Int,(z.natAbs:Int)=z∨(z.natAbs:Int)=-z:=fun z=>by omega
 unfold t0
 simp only [e1,bV,Z_d,uU]
 refine Ev.bind (aEz (m:=x.natAbs) (n:=y.natAbs) (by omega) (by omega)) ?_
 have c1:(x.natAbs:Int)=(y.natAbs:Int)*((x.natAbs/y.natAbs:Nat):Int)+((x.natAbs%y.natAbs:Nat):Int):=by
  rw [←Int.natCast_mul,←Int.natCast_add,hnd]
 generalize hq:x.natAbs/y.natAbs=q at *
 generalize hr:x.natAbs%y.natAbs=r at *
 have uniq:∀a b:Int,x=y*a+b→0≤b→b<y.natAbs→x/y=a∧x%y=b:=by
  intro a b h1 h2 h3
  have hm:x%y=b:=by
   rw [h1,Int.add_comm,Int.add_mul_emod_self_left]
   by_cases hy0:y<0
   ·have:b%y=b% -y:=by rw [Int.emod_neg]
    rw [this,Int.emod_eq_of_lt h2 (by omega)]
   ·exact Int.emod_eq_of_lt h2 (by omega)
  refine⟨?_,hm⟩
  have h4:=Int.mul_ediv_add_emod x y
  exact Int.eq_of_mul_eq_mul_left hy (by omega)
 by_cases hx0:x<0
 ·have e2:decide (x<0)=true:=dT hx0
  simp only [e2,cC]
  by_cases hr0:r=0
  ·subst hr0
   have e3:decide (0<((Z ((0:Nat):Int)).d.length:Int))=false:=by rw [Z_d,show((0:Nat):Int).natAbs=0 from rfl,zT];rfl
   simp only [e3,bV]
   refine bN q 0 ?_ ?_
   ·by_cases hy0:y<0
    ·rw [if_pos (by simp [hx0,hy0])]
     refine((uniq q 0 ?_ (by omega) (by omega)).1).symm
     rw [show(y.natAbs:Int)=-y by omega,show(x.natAbs:Int)=-x by omega] at c1
     rw [Int.neg_mul] at c1;omega
    ·rw [if_neg (by simp [hx0,hy0])]
     refine((uniq (-q) 0 ?_ (by omega) (by omega)).1).symm
     rw [show(y.natAbs:Int)=y by omega,show(x.natAbs:Int)=-x by omega] at c1
     rw [Int.mul_neg];omega
   ·by_cases hy0:y<0
    ·refine((uniq q 0 ?_ (by omega) (by omega)).2).symm
     rw [show(y.natAbs:Int)=-y by omega,show(x.natAbs:Int)=-x by omega] at c1
     rw [Int.neg_mul] at c1;omega
    ·refine((uniq (-q) 0 ?_ (by omega) (by omega)).2).symm
     rw [show(y.natAbs:Int)=y by omega,show(x.natAbs:Int)=-x by omega] at c1
     rw [Int.mul_neg];omega
  ·have hrl:dl r≠0:=by rw [Ne,wG];exact hr0
   have e3:decide (0<((Z (r:Int)).d.length:Int))=true:=dT (by rw [tF];simp only [Int.natAbs_natCast];omega)
   simp only [e3,cC]
   simp only [Z_d,Int.natAbs_natCast]
   have d1:l4 [1]:=l4.nil.cons (by omega) (by omega)
   obtain⟨p,p1,p2,p3,p4⟩:=aHF (cG q) d1 (by show dl q≤_;omega) (by simp)
   rw [d6,vD1] at p3
   have o1:=yD false p1 (by have:(cK q).length=dl q:=rfl;simp at p2;omega)
   rw [p3,oI] at o1
   obtain⟨s,s1,s2,s3,s4⟩:=aDF (cG y.natAbs) (cG r) (sD (by omega)) (by rw [d6,d6];omega) (by show dl _≤_;omega)
   rw [d6,d6] at s3
   have o2:=yD false s2 (by rw [s1];show dl _≤_;omega)
   rw [s3,oI] at o2
   refine Ev.bind p4 (Ev.bind o1 (Ev.bind s4 (Ev.bind o2 ?_)))
   refine bN _ _ ?_ ?_
   ·by_cases hy0:y<0
    ·rw [if_pos (by simp [hx0,hy0])]
     refine((uniq (q+1) (y.natAbs-r) ?_ (by omega) (by omega)).1).symm▸(by omega)
     rw [show(y.natAbs:Int)=-y by omega,show(x.natAbs:Int)=-x by omega] at c1
     rw [Int.neg_mul] at c1;rw [Int.mul_add];omega
    ·rw [if_neg (by simp [hx0,hy0])]
     refine((uniq (-(q+1)) (y.natAbs-r) ?_ (by omega) (by omega)).1).symm▸(by omega)
     rw [show(y.natAbs:Int)=y by omega,show(x.natAbs:Int)=-x by omega] at c1
     rw [Int.mul_neg,Int.mul_add];omega
   ·by_cases hy0:y<0
    ·refine((uniq (q+1) (y.natAbs-r) ?_ (by omega) (by omega)).2).symm▸(by omega)
     rw [show(y.natAbs:Int)=-y by omega,show(x.natAbs:Int)=-x by omega] at c1
     rw [Int.neg_mul] at c1;rw [Int.mul_add];omega
    ·refine((uniq (-(q+1)) (y.natAbs-r) ?_ (by omega) (by omega)).2).symm▸(by omega)
     rw [show(y.natAbs:Int)=y by omega,show(x.natAbs:Int)=-x by omega] at c1
     rw [Int.mul_neg,Int.mul_add];omega
 ·have e2:decide (x<0)=false:=dF hx0
  simp only [e2,bV]
  refine bN q r ?_ ?_
  ·by_cases hy0:y<0
   ·rw [if_neg (by simp [hx0,hy0])]
    refine((uniq (-q) r ?_ (by omega) (by omega)).1).symm
    rw [show(y.natAbs:Int)=-y by omega,show(x.natAbs:Int)=x by omega] at c1
    rw [Int.neg_mul] at c1;rw [Int.mul_neg];omega
   ·rw [if_pos (by simp [hx0,hy0])]
    refine((uniq q r ?_ (by omega) (by omega)).1).symm
    rw [show(y.natAbs:Int)=y by omega,show(x.natAbs:Int)=x by omega] at c1
    omega
  ·by_cases hy0:y<0
   ·refine((uniq (-q) r ?_ (by omega) (by omega)).2).symm
    rw [show(y.natAbs:Int)=-y by omega,show(x.natAbs:Int)=x by omega] at c1
    rw [Int.neg_mul] at c1;rw [Int.mul_neg];omega
   ·refine((uniq q r ?_ (by omega) (by omega)).2).symm
    rw [show(y.natAbs:Int)=y by omega,show(x.natAbs:Int)=x by omega] at c1
    omega
theorem aN3 (K:Nat):∀(n m k:Nat),n<k→k8 K k (m:Int) (n:Int)=some ((Nat.gcd m n:Nat):Int):=by
 intro n
 induction n using Nat.strongRecOn with
 |_ n ih=>
  intro m k hk
  obtain⟨k',rfl,_⟩:=bG hk
  by_cases h:n=0
  ·subst h
   simp [k8]
  ·have e1:decide (0<(n:Int))=true:=dT (by omega)
   have e2:xF (m:Int) (n:Int)=some ((m%n:Nat):Int):=by rw [oP (by omega) (by omega)];simp
   simp only [k8,e1,cC,e2,oB]
   have hlt:=Nat.mod_lt m (show 0<n by omega)
   rw [ih (m%n) hlt n k' (by omega)]
   congr 2
   rw [Nat.gcd_comm m n,Nat.gcd_rec n m,Nat.gcd_comm]
theorem aNX:∀(n m:Nat),dl m≤60000000000→dl n≤60000000000→∃r,vV (fun K k=>jU K k (Z (m:Int)) (Z (n:Int))) r∧(r=.ret (Z (Nat.gcd m n:Nat))∨r=.go (Z (Nat.gcd m n:Nat))):=by
 intro n
 induction n using Nat.strongRecOn with
 |_ n ih=>
  intro m hm hn
  by_cases h:n=0
  ·subst h
   refine⟨.go (Z m),vV.of 1 fun K k hk=>?_,.inr (by simp)⟩
   obtain⟨k',rfl,_⟩:=bG (n:=0) hk
   have e:decide (0<((Z ((0:Nat):Int)).d.length:Int))=false:=by rw [tF,show((0:Nat):Int).natAbs=0 from rfl,wX];rfl
   simp only [jU,e,bV]
  ·have hl:dl n≠0:=by rw [Ne,wG];exact h
   have e1:decide (0<((cK n).length:Int))=true:=dT (by show(0:Int)<dl n;omega)
   have hlt:=Nat.mod_lt m (show 0<n by omega)
   obtain⟨r,h1,h2⟩:=ih (m%n) hlt n hn (Nat.le_trans (aGM _ _) hm)
   have hg:Nat.gcd n (m%n)=Nat.gcd m n:=by rw [Nat.gcd_comm m n,Nat.gcd_rec n m,Nat.gcd_comm]
   rw [hg] at h2
   have hdiv:=aEz (m:=m) (n:=n) (by omega) hm
   have zd:∀t:Nat,(Z (t:Int)).d=cK t:=fun t=>by rw [Z_d];simp
   by_cases hs:dl m≤2∧dl n≤2
   ·refine⟨.ret (Z (Nat.gcd m n:Nat)),vV.step ?_,.inl rfl⟩
    have b1:=zC (n:=m) hs.1
    have b2:=zC (n:=n) hs.2
    have hgl:Nat.gcd m n≤n:=Nat.gcd_le_right m (by omega)
    simp only [jU,e1,cC,zd,aBQ (cG m),aBQ (cG n),d6,oB]
    rw [if_pos (show(cK m).length≤2 from hs.1),if_pos (show(cK n).length≤2 from hs.2)]
    simp only [cC]
    refine vV.bind (x:=((Nat.gcd m n:Nat):Int)) (f:=fun K=>k8 K K (m:Int) (n:Int)) ⟨n+1,fun K hK=>aN3 K n m K (by omega)⟩ ?_
    simp only [uL,aOx (show Nat.gcd m n≤18446744073709551615 by omega),tR false (show Nat.gcd m n≤18446744073709551615 by omega),oB,oI]
    exact vV.of 0 fun _ _ _=>rfl
   ·refine⟨r,vV.step ?_,h2⟩
    simp only [jU,e1,cC,zd,aBQ (cG m),aBQ (cG n),d6,oB]
    by_cases hs1:(cK m).length≤2
    ·have hs2:¬(cK n).length≤2:=fun e=>hs ⟨hs1,e⟩
     rw [if_pos hs1,if_neg hs2]
     simp only [cC,bV]
     exact vV.bind hdiv h1
    ·rw [if_neg hs1]
     simp only [bV]
     exact vV.bind hdiv h1
theorem aJK {x y:Int} (hx:dl x.natAbs≤60000000000) (hy:dl y.natAbs≤60000000000):Ev (fun K=>tZ K (Z x) (Z y)) (Z (Int.gcd x y:Nat)):=by
 unfold tZ
 have h1:=yD false (cG x.natAbs) (by show dl _≤_;omega)
 have h2:=yD false (cG y.natAbs) (by show dl _≤_;omega)
 rw [d6,oI,Int.toNat_natCast] at h1 h2
 simp only [Z_d]
 refine Ev.bind h1 (Ev.bind h2 ?_)
 obtain⟨r,h3,h4⟩:=aNX y.natAbs x.natAbs hx hy
 refine Ev.bind h3.ev ?_
 rcases h4 with rfl|rfl
 ·exact Ev.pure _
 ·exact Ev.pure _
end Go.Proofs.YtcjdedkdoagifaaGreat
set_option linter.unusedVariables false
namespace Go.Proofs.YtcjdedkdoagifaaGreat
theorem aEn (u:List Int):∀(n:Nat),n≤u.length→n≤9000000000000→∃m:Nat,m≤n∧(∀i,m≤i→i<n→u.getD i 0=0)∧(m=0∨u.getD (m-1) 0≠0)∧∀K k,n<k→fS K u k n=some (m:Int)
 |0,_,_=>⟨0,Nat.le_refl _,fun i _ h=>by omega,.inl rfl,fun K k hk=>by
   obtain⟨k',rfl,_⟩:=bG hk
   simp [fS]⟩
 |n+1,h,hL=>by
  have e1:aY (((n+1:Nat):Int)-1)=some (n:Int):=ckN (m:=0) (by omega) (by omega)
  have e2:decide (0<((n+1:Nat):Int))=true:=dT (by omega)
  have e0:max (n:Int) 0=(n:Int):=by omega
  have e3:=dA (xs:=u) (i:=n) (by omega)
  by_cases h0:u.getD n 0=0
  ·obtain⟨m,h1,h2,h3,h4⟩:=aEn u n (by omega) (by omega)
   refine⟨m,by omega,fun i a b=>?_,h3,fun K k hk=>?_⟩
   ·by_cases e:i=n
    ·subst e;exact h0
    ·exact h2 i a (by omega)
   ·obtain⟨k',rfl,hk'⟩:=bG hk
    simp only [fS,e0,e1,e2,e3,qT h0,cC,oB]
    exact h4 K k' (by omega)
  ·refine⟨n+1,by omega,fun i a b=>by omega,.inr (by simpa using h0),fun K k hk=>?_⟩
   obtain⟨k',rfl,hk'⟩:=bG hk
   simp only [fS,e0,e1,e2,e3,qF h0,cC,bV,oB]
theorem kF (neg:Bool) {u:List Int} (hd:l4 u) (hL:u.length≤9000000000000):Ev (fun K=>bJ K neg u) (mkG neg (vD u).toNat):=by
 obtain⟨m,h1,h2,h3,h4⟩:=aEn u u.length (Nat.le_refl _) hL
 obtain⟨h5,h6⟩:=aSf hd h1 h2 h3
 have hn:=hd.nonneg
 refine⟨u.length+1,fun K hK=>?_⟩
 simp only [bJ,h4 K K (by omega),oB,pJ]
 unfold mkG
 by_cases h0:m=0
 ·rw [qT (by omega),cC,if_pos (by have:=h6.1 h0;omega)]
 ·rw [qF (by omega),bV,aHn h1,oB,if_neg (by intro h;exact h0 (h6.2 (by omega))),h5]
theorem aQK {u:List Int} {x:Int} (h:u.length≤60000000000):oT u [x]=some (u++[x]):=vY (by simp;omega)
theorem l4.snoc {u:List Int} {x:Int} (h:l4 u) (h0:0≤x) (h1:x<1000000000):l4 (u++[x]):=fun i=>by
 rcases Nat.lt_trichotomy i u.length with h2|h2|h2
 ·rw [aHE h2];exact h i
 ·subst h2;rw [aGm];exact⟨h0,h1⟩
 ·rw [vM (by simp;omega)];omega
theorem aOy:∀(n:Nat) (neg:Bool) (u:List Int),n≤9223372036854775808→(neg=false→n≤9223372036854775807)→l4 u→u.length+n≤30000000000000000000→u.length+dl n≤50→∃r,l4 r∧r.length≤u.length+dl n∧vD r=vD u+n*PB u.length∧∀K k,n<k→eD K k u (if neg then -(n:Int) else n)=some r:=by
 intro n
 induction n using Nat.strongRecOn with
 |_ n ih=>
  intro neg u h1 h2 hu h3 h4
  by_cases h0:n=0
  ·subst h0
   refine⟨u,hu,by omega,by simp,fun K k hk=>?_⟩
   obtain⟨k',rfl,_⟩:=bG hk
   cases neg<;>simp [eD]
  ·have hdl:dl n=dl (n/1000000000)+1:=by unfold dl;rw [wO h0];rfl
   obtain⟨r,g1,g2,g3,g4⟩:=ih (n/1000000000) (by omega) neg (u++[((n%1000000000:Nat):Int)]) (by omega) (fun e=>by have:=h2 e;omega) (hu.snoc (by omega) (by omega)) (by simp;omega) (by simp;omega)
   have hul:(u++[((n%1000000000:Nat):Int)]).length=u.length+1:=by simp
   rw [hul] at g2 g3
   refine⟨r,g1,by omega,?_,fun K k hk=>?_⟩
   ·rw [g3]
    unfold vD
    rw [hul,aMj]
    simp only [PB]
    have:(n:Int)=(n%1000000000:Nat)+((n/1000000000:Nat):Int)*1000000000:=by omega
    rw [show(n:Int)*PB u.length=((n%1000000000:Nat)+((n/1000000000:Nat):Int)*1000000000)*PB u.length by rw [←this]]
    grind
   ·obtain⟨k',rfl,_⟩:=bG hk
    have a1:∀x:Int,oT u [x]=some (u++[x]):=fun x=>aQK (by omega)
    cases neg with
    |false=>
     have g4':=g4 K k' (by omega)
     simp only [Bool.false_eq_true,if_false] at g4' ⊢
     have:=h2 rfl
     have e1:((n:Int) != 0)=true:=nT (by omega)
     have e2:xF (n:Int) 1000000000=some ((n%1000000000:Nat):Int):=by rw [oP (by omega) (by omega)];simp
     have e3:yJ (n:Int) 1000000000=some ((n/1000000000:Nat):Int):=by rw [t8 (by omega) (by omega) (by omega)];simp
     have e4:decide (((n%1000000000:Nat):Int)<0)=false:=dF (by omega)
     simp only [eD,e1,e2,e3,e4,a1,cC,bV,oB]
     exact g4'
    |true=>
     have g4':=g4 K k' (by omega)
     simp only [if_true] at g4' ⊢
     have e1:(-(n:Int) != 0)=true:=nT (by omega)
     have e2:xF (-(n:Int)) 1000000000=some (-((n%1000000000:Nat):Int)):=by
      unfold xF
      rw [if_neg (by omega),Int.neg_tmod,Int.tmod_eq_emod_of_nonneg (by omega)];simp
     have e3:yJ (-(n:Int)) 1000000000=some (-((n/1000000000:Nat):Int)):=by
      unfold yJ
      rw [if_neg (by omega),Int.neg_tdiv,Int.tdiv_eq_ediv_of_nonneg (by omega),show(n:Int)/1000000000=((n/1000000000:Nat):Int) by simp]
      exact lL (by omega)
     by_cases hz:n%1000000000=0
     ·have e4:decide (-((n%1000000000:Nat):Int)<0)=false:=dF (by omega)
      simp only [eD,e1,e2,e3,e4,a1,cC,bV,oB]
      rw [hz] at g4' ⊢
      exact g4'
     ·have e4:decide (-((n%1000000000:Nat):Int)<0)=true:=dT (by omega)
      have e5:aY (- -((n%1000000000:Nat):Int))=some ((n%1000000000:Nat):Int):=by rw [Int.neg_neg];exact lL (by omega)
      simp only [eD,e1,e2,e3,e4,e5,a1,cC,oB]
      exact g4'
theorem aAJ {n:Int} (h:-9223372036854775808≤n∧n≤9223372036854775807):Ev (fun K=>iI K n) (Z n):=by
 have hl:dl n.natAbs≤3:=aB8 (by
  have:PB 3=1000000000000000000000000000:=by decide
  omega)
 obtain⟨r,h1,h2,h3,h4⟩:=aOy n.natAbs (decide (n<0)) [] (by omega) (by simp;omega) l4.nil (by simp;omega) (by simp;omega)
 have e:(if decide (n<0)=true then -(n.natAbs:Int) else(n.natAbs:Int))=n:=by
  by_cases h0:n<0
  ·rw [if_pos (by simpa using h0)];omega
  ·rw [if_neg (by simpa using h0)];omega
 rw [e] at h4
 have h5:=kF (decide (n<0)) h1 (by simp at h2;omega)
 rw [h3,vD0] at h5
 simp only [List.length_nil,PB,Int.mul_one,Int.zero_add,Int.toNat_natCast] at h5
 rw [u7,e] at h5
 unfold iI
 refine Ev.bind (f:=fun K=>eD K K [] n) ⟨n.natAbs+1,fun K hK=>h4 K K (by omega)⟩ ?_
 simp only [sE]
 exact Ev.bind h5 (Ev.pure _)
theorem wA (u:List Int) (i:Nat):dM u (i:Int)=some (u.getD i 0):=by
 unfold dM
 by_cases h:i<u.length
 ·rw [dT (by omega),cC,dA h,oB]
 ·rw [dF (by omega),bV,vM (by omega)]
theorem aQC {u:List Int} {x:Int} {i:Nat} (h:u.length=i):W (u++[x]) 0 (i+1)=W u 0 i+x*PB i:=by subst h;exact aMj
theorem aLs {a b:List Int} (ha:l4 a) (hb:l4 b) {M:Nat} (hL:a.length≤M) (hM:b.length≤M) (hMM:M≤50000000000):∀(t i:Nat) (out:List Int) (c:Int),M+1-i=t→i≤M+1→out.length=i→l4 out→0≤c→c≤1→(i=M+1→c=0)→W out 0 i+c*PB i=W a 0 i+W b 0 i→
  ∃r,r.length≤M+1∧l4 r∧vD r=vD a+vD b∧∀K k,t<k→cO K a b k out c (i:Int)=some r:=by
 intro t
 induction t with
 |zero=>
  intro i out c ht hi ho hD hc0 hc1 hc hI
  have hii:i=M+1:=by omega
  have:=hc hii
  subst this
  refine⟨out,by omega,hD,?_,fun K k hk=>?_⟩
  ·rw [aAQ (u:=a) (by omega),aAQ (u:=b) (by omega)] at hI
   unfold vD
   rw [ho];omega
  ·obtain⟨k',rfl,_⟩:=bG hk
   have e1:decide ((i:Int)<(a.length:Int))=false:=dF (by omega)
   have e2:decide ((i:Int)<(b.length:Int))=false:=dF (by omega)
   have e3:decide ((0:Int)<0)=false:=dF (by omega)
   simp only [cO,e1,e2,e3,bV]
 |succ t ih=>
  intro i out c ht hi ho hD hc0 hc1 hc hI
  have ha':=ha i
  have hb':=hb i
  have f1:aY (a.getD i 0+b.getD i 0)=some (a.getD i 0+b.getD i 0):=lL (by omega)
  have f2:aY (a.getD i 0+b.getD i 0+c)=some (a.getD i 0+b.getD i 0+c):=lL (by omega)
  have f3:xF (a.getD i 0+b.getD i 0+c) 1000000000=some ((a.getD i 0+b.getD i 0+c)%1000000000):=oP (by omega) (by omega)
  have f4:yJ (a.getD i 0+b.getD i 0+c) 1000000000=some ((a.getD i 0+b.getD i 0+c)/1000000000):=t8 (by omega) (by omega) (by omega)
  have f5:aY ((i:Int)+1)=some ((i+1:Nat):Int):=ckN (m:=0) (by omega) (by omega)
  have f6:∀x:Int,oT out [x]=some (out++[x]):=fun x=>aQK (by omega)
  have go:(i=M→a.getD i 0=0∧b.getD i 0=0)→i≤M→∃r,r.length≤M+1∧l4 r∧vD r=vD a+vD b∧∀K k,t<k→cO K a b k (out++[(a.getD i 0+b.getD i 0+c)%1000000000]) ((a.getD i 0+b.getD i 0+c)/1000000000) ((i+1:Nat):Int)=some r:=by
   intro hlast hile
   refine ih (i+1) _ _ (by omega) (by omega) (by simp;omega) (hD.snoc (by omega) (by omega)) (by omega) (by omega) (fun e=>?_) ?_
   ·have:=hlast (by omega);omega
   ·rw [aQC ho,eE,eE,Nat.zero_add]
    simp only [PB]
    have hd:(a.getD i 0+b.getD i 0+c)%1000000000+1000000000*((a.getD i 0+b.getD i 0+c)/1000000000)=a.getD i 0+b.getD i 0+c:=by omega
    grind
  by_cases h1:i<a.length
  ·obtain⟨r,g1,g2,g3,g4⟩:=go (fun e=>by omega) (by omega)
   refine⟨r,g1,g2,g3,fun K k hk=>?_⟩
   obtain⟨k',rfl,_⟩:=bG hk
   simp only [cO,dT (show(i:Int)<(a.length:Int) by omega),wA,f1,f2,f3,f4,f5,f6,cC,oB]
   exact g4 K k' (Nat.lt_of_succ_lt_succ hk)
  ·by_cases h2:i<b.length
   ·obtain⟨r,g1,g2,g3,g4⟩:=go (fun e=>by omega) (by omega)
    refine⟨r,g1,g2,g3,fun K k hk=>?_⟩
    obtain⟨k',rfl,_⟩:=bG hk
    simp only [cO,dF (show¬(i:Int)<(a.length:Int) by omega),dT (show(i:Int)<(b.length:Int) by omega),wA,f1,f2,f3,f4,f5,f6,cC,bV,oB]
    exact g4 K k' (Nat.lt_of_succ_lt_succ hk)
   ·by_cases h3:0<c
    ·obtain⟨r,g1,g2,g3,g4⟩:=go (fun e=>⟨vM (by omega),vM (by omega)⟩) (by
      rcases Nat.lt_or_ge (M) i with h|h
      ·have:=hc (by omega);omega
      ·exact h)
     refine⟨r,g1,g2,g3,fun K k hk=>?_⟩
     obtain⟨k',rfl,_⟩:=bG hk
     simp only [cO,dF (show¬(i:Int)<(a.length:Int) by omega),dF (show¬(i:Int)<(b.length:Int) by omega),dT h3,wA,f1,f2,f3,f4,f5,f6,cC,bV,oB]
     exact g4 K k' (Nat.lt_of_succ_lt_succ hk)
    ·refine⟨out,by omega,hD,?_,fun K k hk=>?_⟩
     ·rw [aAQ (u:=a) (by omega),aAQ (u:=b) (by omega)] at hI
      have:c=0:=by omega
      subst this
      unfold vD
      rw [ho];omega
     ·obtain⟨k',rfl,_⟩:=bG hk
      simp only [cO,dF (show¬(i:Int)<(a.length:Int) by omega),dF (show¬(i:Int)<(b.length:Int) by omega),dF h3,bV]
theorem aK8 {a b:List Int} (ha:l4 a) (hb:l4 b) (hL:a.length≤50000000000) (hM:b.length≤50000000000):∃r,l4 r∧r.length≤max a.length b.length+1∧vD r=vD a+vD b∧Ev (fun K=>qR K a b) r:=by
 obtain⟨r,h1,h2,h3,h4⟩:=aLs (M:=max a.length b.length) ha hb (by omega) (by omega) (by omega) _ 0 [] 0 rfl (by omega) rfl l4.nil (by omega) (by omega) (by omega) (by simp [W])
 refine⟨r,h2,h1,h3,⟨max a.length b.length+2,fun K hK=>?_⟩⟩
 have:=h4 K K (by omega)
 simp only [Int.natCast_zero] at this
 simp only [qR,this,oB,qD]
theorem aCw {a b:List Int} (ha:l4 a) (hb:l4 b) (hbl:b.length≤a.length) (hv:vD b≤vD a) (hL:a.length≤50000000000):∀(t i:Nat) (out:List Int) (c:Int),i+t=a.length→out.length=i→l4 out→0≤c→c≤1→W out 0 i-c*PB i=W a 0 i-W b 0 i→
  ∃r,r.length=a.length∧l4 r∧vD r=vD a-vD b∧∀K k,t<k→eH K a b k out c (i:Int)=some r
 |0,i,out,c,hi,ho,hD,hc0,hc1,hI=>by
  have:i=a.length:=by omega
  subst this
  refine⟨out,ho,hD,?_,fun K k hk=>?_⟩
  ·rw [aAQ (u:=b) hbl] at hI
   have hlt:=hD.lt
   unfold vD at *
   rw [ho] at hlt ⊢
   have:c=0:=by
    rcases Int.lt_or_le 0 c with h|h
    ·have:c=1:=by omega
     subst this
     omega
    ·omega
   subst this
   omega
  ·obtain⟨k',rfl,_⟩:=bG hk
   simp [eH]
 |t+1,i,out,c,hi,ho,hD,hc0,hc1,hI=>by
  have ha':=ha i
  have hb':=hb i
  have e1:decide ((i:Int)<(a.length:Int))=true:=dT (by omega)
  have e2:=dA (xs:=a) (i:=i) (by omega)
  have f1:aY (a.getD i 0-b.getD i 0)=some (a.getD i 0-b.getD i 0):=lL (by omega)
  have f2:aY (a.getD i 0-b.getD i 0-c)=some (a.getD i 0-b.getD i 0-c):=lL (by omega)
  have f5:aY ((i:Int)+1)=some ((i+1:Nat):Int):=ckN (m:=0) (by omega) (by omega)
  have f6:∀x:Int,oT out [x]=some (out++[x]):=fun x=>aQK (by omega)
  by_cases hn:a.getD i 0-b.getD i 0-c<0
  ·have f3:aY (a.getD i 0-b.getD i 0-c+1000000000)=some (a.getD i 0-b.getD i 0-c+1000000000):=lL (by omega)
   obtain⟨r,g1,g2,g3,g4⟩:=aCw ha hb hbl hv hL t (i+1) (out++[a.getD i 0-b.getD i 0-c+1000000000]) 1 (by omega) (by simp;omega) (hD.snoc (by omega) (by omega)) (by omega) (by omega) (by
    rw [aQC ho,eE,eE,Nat.zero_add]
    simp only [PB]
    grind)
   refine⟨r,g1,g2,g3,fun K k hk=>?_⟩
   obtain⟨k',rfl,_⟩:=bG hk
   simp only [eH,e1,e2,wA,f1,f2,f3,f5,f6,dT hn,cC,oB]
   exact g4 K k' (by omega)
  ·obtain⟨r,g1,g2,g3,g4⟩:=aCw ha hb hbl hv hL t (i+1) (out++[a.getD i 0-b.getD i 0-c]) 0 (by omega) (by simp;omega) (hD.snoc (by omega) (by omega)) (by omega) (by omega) (by
    rw [aQC ho,eE,eE,Nat.zero_add]
    simp only [PB]
    grind)
   refine⟨r,g1,g2,g3,fun K k hk=>?_⟩
   obtain⟨k',rfl,_⟩:=bG hk
   simp only [eH,e1,e2,wA,f1,f2,f5,f6,dF hn,cC,bV,oB]
   exact g4 K k' (by omega)
theorem aAT {a b:List Int} (ha:l4 a) (hb:l4 b) (hbl:b.length≤a.length) (hv:vD b≤vD a) (hL:a.length≤50000000000):
  ∃r,r.length=a.length∧l4 r∧vD r=vD a-vD b∧Ev (fun K=>fW K a b) r:=by
 obtain⟨r,g1,g2,g3,g4⟩:=aCw ha hb hbl hv hL a.length 0 [] 0 (by omega) rfl l4.nil (by omega) (by omega) (by simp [W])
 refine⟨r,g1,g2,g3,⟨a.length+1,fun K hK=>?_⟩⟩
 have h:=g4 K K (by omega)
 simp only [Int.natCast_zero] at h
 simp only [fW,oB,h,oZ]
theorem aCR {u v:List Int} (hu:l4 u) (hv:l4 v) (hl:u.length=v.length) (hL:u.length≤9000000000000):∀(j:Nat),j≤u.length→∀K k,j<k→
  dR K u v k ((j:Int)-1)=some (if W u 0 j<W v 0 j then .ret (-1) else if W v 0 j<W u 0 j then .ret 1 else .go ())
 |0,_,K,k,hk=>by
  obtain⟨k',rfl,_⟩:=bG hk
  simp [dR,W]
 |j+1,hj,K,k,hk=>by
  obtain⟨k',rfl,hk'⟩:=bG hk
  have e0:((j+1:Nat):Int)-1=(j:Int):=by omega
  have e1:decide (0≤(j:Int))=true:=dT (by omega)
  have e2:=dA (xs:=u) (i:=j) (by omega)
  have e3:=dA (xs:=v) (i:=j) (by omega)
  rw [e0]
  rcases Int.lt_trichotomy (u.getD j 0) (v.getD j 0) with h|h|h
  ·have:=aKw hu hv h
   simp only [dR,e1,e2,e3,dT h,cC,oB]
   rw [if_pos this]
  ·have e5:aY ((j:Int)-1)=some ((j:Int)-1):=lL (by omega)
   have ih:=aCR hu hv hl hL j (by omega) K k' (by omega)
   have c1:(W u 0 (j+1)<W v 0 (j+1))↔(W u 0 j<W v 0 j):=by rw [eE,eE,Nat.zero_add,h];omega
   have c2:(W v 0 (j+1)<W u 0 (j+1))↔(W v 0 j<W u 0 j):=by rw [eE,eE,Nat.zero_add,h];omega
   simp only [dR,e1,e2,e3,dF (show¬u.getD j 0<v.getD j 0 by omega),dF (show¬v.getD j 0<u.getD j 0 by omega),e5,cC,bV,oB,c1,c2]
   exact ih
  ·have:=aKw hv hu h
   simp only [dR,e1,e2,e3,dF (show¬u.getD j 0<v.getD j 0 by omega),dT h,cC,bV,oB]
   rw [if_neg (by omega),if_pos this]
theorem vK {u v:List Int} (hu:l4 u) (hv:l4 v) (tu:Top u) (tv:Top v) (hL:u.length≤9000000000000):Ev (fun K=>cP K u v) (wC (vD u) (vD v)):=by
 refine⟨u.length+1,fun K hK=>?_⟩
 unfold wC
 rcases Nat.lt_trichotomy u.length v.length with h|h|h
 ·have:=aG0 hu hv tv h
  simp only [cP,dT (show(u.length:Int)<(v.length:Int) by omega),cC]
  rw [if_pos this]
 ·have e2:aY ((u.length:Int)-1)=some ((u.length:Int)-1):=lL (by omega)
  have e3:=aCR hu hv h hL u.length (Nat.le_refl _) K K (by omega)
  simp only [cP,dF (show¬(u.length:Int)<(v.length:Int) by omega),dF (show¬(v.length:Int)<(u.length:Int) by omega),e2,e3,bV,oB]
  unfold vD
  rw [←h]
  by_cases h1:W u 0 u.length<W v 0 u.length
  ·rw [if_pos h1,if_pos h1]
  ·rw [if_neg h1,if_neg h1]
   by_cases h2:W v 0 u.length<W u 0 u.length
   ·rw [if_pos h2,if_pos h2]
   ·rw [if_neg h2,if_neg h2];rfl
 ·have:=aG0 hv hu tu h
  simp only [cP,dF (show¬(u.length:Int)<(v.length:Int) by omega),dT (show(v.length:Int)<(u.length:Int) by omega),cC,bV]
  rw [if_neg (by omega),if_pos this]
theorem aEE (x:Int) (hL:dl x.natAbs≤60000000000):Ev (fun K=>mI K (Z x)) (Z (-x)):=by
 unfold mI
 have h:=kF (!decide (x<0)) (cG x.natAbs) (by show dl _≤_;omega)
 rw [d6,Int.toNat_natCast,u7] at h
 have e:(if(!decide (x<0))=true then -(x.natAbs:Int) else(x.natAbs:Int))=-x:=by
  by_cases h0:x<0
  ·rw [dT h0];simp;omega
  ·rw [dF h0];simp;omega
 rw [e] at h
 exact Ev.bind h (Ev.pure _)
theorem aHY {x y:Int} (hx:dl x.natAbs≤40000000000) (hy:dl y.natAbs≤40000000000):Ev (fun K=>oW K (Z x) (Z y)) (Z (x+y)):=by
 have dx:=cG x.natAbs
 have dy:=cG y.natAbs
 have vx:=d6 x.natAbs
 have vy:=d6 y.natAbs
 have tx:=oS x.natAbs
 have ty:=oS y.natAbs
 have lx:(cK x.natAbs).length≤40000000000:=hx
 have ly:(cK y.natAbs).length≤40000000000:=hy
 unfold oW
 simp only [Z_d,uU]
 by_cases hs:(decide (x<0)==decide (y<0))=true
 ·simp only [hs,cC]
  obtain⟨r,h1,h2,h3,h4⟩:=aK8 dx dy (by omega) (by omega)
  have h5:=kF (decide (x<0)) h1 (by omega)
  refine Ev.bind h4 (Ev.bind h5 ?_)
  rw [u7]
  have hs':(x<0)↔(y<0):=by simpa using hs
  have:(if decide (x<0)=true then -(((vD r).toNat:Nat):Int) else(((vD r).toNat:Nat):Int))=x+y:=by
   by_cases h:x<0
   ·rw [if_pos (by simpa using h)];omega
   ·rw [if_neg (by simpa using h)];omega
  rw [this]
  exact Ev.pure _
 ·simp only [Bool.not_eq_true] at hs
  simp only [hs,bV]
  have hs':¬((x<0)↔(y<0)):=by simpa using hs
  refine Ev.bind (vK dx dy tx ty (by omega)) ?_
  rw [vx,vy]
  unfold wC
  by_cases hlt:x.natAbs<y.natAbs
  ·have hle:(cK x.natAbs).length≤(cK y.natAbs).length:=sD (by omega)
   obtain⟨r,h1,h2,h3,h4⟩:=aAT dy dx hle (by omega) (by omega)
   have h5:=kF (decide (y<0)) h2 (by omega)
   rw [if_pos (by omega)]
   refine Ev.congr (g:=fun K=>(fW K (cK y.natAbs) (cK x.natAbs)).bind fun v16=>(bJ K (decide (y<0)) v16).bind fun v18=>some v18) ?_ (fun K=>rfl)
   refine Ev.bind h4 (Ev.bind h5 ?_)
   rw [u7]
   have:(if decide (y<0)=true then -(((vD r).toNat:Nat):Int) else(((vD r).toNat:Nat):Int))=x+y:=by
    by_cases h:y<0
    ·rw [if_pos (by simpa using h)];omega
    ·rw [if_neg (by simpa using h)];omega
   rw [this]
   exact Ev.pure _
  ·have hle:(cK y.natAbs).length≤(cK x.natAbs).length:=sD (by omega)
   obtain⟨r,h1,h2,h3,h4⟩:=aAT dx dy hle (by omega) (by omega)
   have h5:=kF (decide (x<0)) h2 (by omega)
   have hc:decide ((if(x.natAbs:Int)<y.natAbs then(-1:Int) else if(y.natAbs:Int)<x.natAbs then 1 else 0)<0)=false:=by
    rw [if_neg (by omega)]
    split<;>rfl
   simp only [hc,bV]
   refine Ev.bind h4 (Ev.bind h5 ?_)
   rw [u7]
   have:(if decide (x<0)=true then -(((vD r).toNat:Nat):Int) else(((vD r).toNat:Nat):Int))=x+y:=by
    by_cases h:x<0
    ·rw [if_pos (by simpa using h)];omega
    ·rw [if_neg (by simpa using h)];omega
   rw [this]
   exact Ev.pure _
theorem aIR {o0:List Int} {x y:aM} {i:Nat} (ha:l4 x.d) (hb:l4 y.d) (hi:i<x.d.length) (hl:i+y.d.length≤o0.length) (hL:o0.length≤9000000000000):∀(t k:Nat) (out:List Int) (c:Int),k+t=y.d.length→aHm o0 y.d i (x.d.getD i 0) out c k→
  ∃out' c',aHm o0 y.d i (x.d.getD i 0) out' c' y.d.length∧∀K n,t<n→iC K x y (i:Int) n out c (k:Int)=some (out',c')
 |0,k,out,c,hk,hP=>by
  have:k=y.d.length:=by omega
  subst this
  refine⟨out,c,hP,fun K n hn=>?_⟩
  obtain⟨n',rfl,_⟩:=bG hn
  simp [iC]
 |t+1,k,out,c,hk,hP=>by
  have hf:=ha i
  obtain⟨g1,g2,g3,g4,g5,g6,g7⟩:=hP.step (by omega) hf.1 hf.2 hb
  have c0:=hP.c0
  have c1:=hP.c1
  have hlo:=hP.len
  have e0:=dA (xs:=x.d) (i:=i) hi
  have e1:decide ((k:Int)<(y.d.length:Int))=true:=dT (by omega)
  have e2:=dA (xs:=y.d) (i:=k) (by omega)
  have e3:aY ((k:Int)+1)=some ((k+1:Nat):Int):=ckN (m:=0) (by omega) (by omega)
  have e4:aY ((i:Int)+(k:Int))=some ((i+k:Nat):Int):=ckN (m:=0) (by omega) (by omega)
  have e5:=dA (xs:=out) (i:=i+k) (by omega)
  have e6:aY (x.d.getD i 0*y.d.getD k 0)=some (x.d.getD i 0*y.d.getD k 0):=lL (by omega)
  have e7:aY (out.getD (i+k) 0+x.d.getD i 0*y.d.getD k 0)=some (out.getD (i+k) 0+x.d.getD i 0*y.d.getD k 0):=lL (by omega)
  have e8:aY (out.getD (i+k) 0+x.d.getD i 0*y.d.getD k 0+c)=some (out.getD (i+k) 0+x.d.getD i 0*y.d.getD k 0+c):=lL (by omega)
  have e9:yJ (out.getD (i+k) 0+x.d.getD i 0*y.d.getD k 0+c) 1000000000=some ((out.getD (i+k) 0+x.d.getD i 0*y.d.getD k 0+c)/1000000000):=t8 (by omega) (by omega) (by omega)
  have e10:xF (out.getD (i+k) 0+x.d.getD i 0*y.d.getD k 0+c) 1000000000=some ((out.getD (i+k) 0+x.d.getD i 0*y.d.getD k 0+c)%1000000000):=oP (by omega) (by omega)
  have e12:∀z,p9 out ((i+k:Nat):Int) z=some (out.set (i+k) z):=fun z=>uC (by omega)
  obtain⟨o,d,h1,h2⟩:=aIR ha hb hi hl hL t (k+1) _ _ (by omega) g7
  refine⟨o,d,h1,fun K n hn=>?_⟩
  obtain⟨n',rfl,_⟩:=bG hn
  simp only [iC,e0,e1,e2,e3,e4,e5,e6,e7,e8,e9,e10,e12,cC,oB]
  exact h2 K n' (by omega)
theorem aIF {x y:aM} (ha:l4 x.d) (hb:l4 y.d) (hL:x.d.length+y.d.length≤9000000000000):∀(t i:Nat) (out:List Int),i+t=x.d.length→aDs x.d y.d out i→
  ∃out',aDs x.d y.d out' x.d.length∧vV (fun K k=>iD K x y k out (i:Int)) out'
 |0,i,out,hi,hP=>by
  have:i=x.d.length:=by omega
  subst this
  refine⟨out,hP,vV.of 1 fun K n hn=>?_⟩
  obtain⟨n',rfl,_⟩:=bG (n:=0) hn
  simp [iD]
 |t+1,i,out,hi,hP=>by
  have hlo:=hP.len
  obtain⟨o,c,h1,h2⟩:=aIR ha hb (by omega) (by omega) (by omega) y.d.length 0 out 0 (by omega) hP.row
  have hlo2:=h1.len
  obtain⟨r,h3,h4⟩:=aIF ha hb hL t (i+1) _ (by omega) (hP.next (by omega) h1)
  refine⟨r,h3,vV.step ?_⟩
  have e1:decide ((i:Int)<(x.d.length:Int))=true:=dT (by omega)
  have e3:aY ((i:Int)+1)=some ((i+1:Nat):Int):=ckN (m:=0) (by omega) (by omega)
  have e4:aY ((i:Int)+(y.d.length:Int))=some ((i+y.d.length:Nat):Int):=ckN (m:=0) (by omega) (by omega)
  have e5:=dA (xs:=o) (i:=i+y.d.length) (by omega)
  have e6:p9 o ((i+y.d.length:Nat):Int) c=some (o.set (i+y.d.length) c):=uC (by omega)
  simp only [iD,e1,cC]
  refine vV.bind (x:=(o,c)) (f:=fun K=>iC K x y (i:Int) K out 0 0) ⟨y.d.length+1,fun K hK=>h2 K K (by omega)⟩ ?_
  simp only [rH,e3,e4,e5,e6,oB]
  exact h4
theorem vL {x y:Int} (hL:dl x.natAbs+dl y.natAbs≤60000000000):Ev (fun K=>dV K (Z x) (Z y)) (Z (x*y)):=by
 have dx:=cG x.natAbs
 have dy:=cG y.natAbs
 have lx:(cK x.natAbs).length=dl x.natAbs:=rfl
 have ly:(cK y.natAbs).length=dl y.natAbs:=rfl
 obtain⟨r,h1,h2⟩:=aIF (x:=Z x) (y:=Z y) dx dy (by rw [tF,tF];omega) (Z x).d.length 0 _ (by omega) (aDs.start _ _)
 have e1:aY (((Z x).d.length:Int)+((Z y).d.length:Int))=some (((Z x).d.length+(Z y).d.length:Nat):Int):=ckN (m:=0) (by omega) (by rw [tF,tF];omega)
 have e2:xI (((Z x).d.length+(Z y).d.length:Nat):Int) (0:Int)=some (List.replicate ((Z x).d.length+(Z y).d.length) 0):=aAU (by rw [tF,tF];omega)
 unfold dV
 simp only [e1,e2,oB]
 refine Ev.bind h2.ev ?_
 have h3:=kF ((Z x).neg != (Z y).neg) h1.ok (by rw [h1.len,tF,tF];omega)
 unfold rE
 refine Ev.bind h3 ?_
 have hv:vD r=x.natAbs*y.natAbs:=by
  have:=h1.val
  rw [←h1.len] at this
  have vx:=d6 x.natAbs
  have vy:=d6 y.natAbs
  unfold vD at *
  rw [this]
  show W (cK x.natAbs) 0 (cK x.natAbs).length*W (cK y.natAbs) 0 (cK y.natAbs).length=_
  rw [vx,vy]
 rw [u7,uU,uU,hv]
 have:(if(decide (x<0) != decide (y<0))=true then -((((x.natAbs:Int)*y.natAbs).toNat:Nat):Int) else((((x.natAbs:Int)*y.natAbs).toNat:Nat):Int))=x*y:=by
  have h0:0≤(x.natAbs:Int)*y.natAbs:=Int.mul_nonneg (by omega) (by omega)
  rw [Int.toNat_of_nonneg h0]
  exact aHa x y
 rw [this]
 exact Ev.pure _
end Go.Proofs.YtcjdedkdoagifaaGreat
set_option linter.unusedVariables false
namespace Go.Proofs.YtcjdedkdoagifaaGreat
theorem aBH {u:List Int} (hu:l4 u) (h:u.length≤2):gX u=some (vD u):=by
 have h0:=hu 0
 have h1:=hu 1
 have d0:=wA u 0
 have d1:=wA u 1
 simp only [Int.natCast_zero,Int.natCast_one] at d0 d1
 have f1:aY (u.getD 1 0*1000000000)=some (u.getD 1 0*1000000000):=lL (by omega)
 have f2:aY (u.getD 1 0*1000000000+u.getD 0 0)=some (u.getD 1 0*1000000000+u.getD 0 0):=lL (by omega)
 simp only [gX,d0,d1,f1,f2,oB]
 have:vD u=W u 0 2:=(aAQ h).symm
 rw [this,W2,Nat.zero_add]
 congr 1;omega
theorem aFG (n:Nat):(Z (n:Int)).d=cK n:=by rw [Z_d];simp
theorem aEt (n k:Nat) (hk:k≤999999999) (hL:dl n≤40000000000):Ev (fun K=>jK K (cK n) (k:Int)) (cK (n*k)):=by
 unfold jK
 have h1:=kF false (cG n) (by show dl _≤_;omega)
 rw [d6,Int.toNat_natCast,oI] at h1
 refine Ev.bind h1 (Ev.bind (aAJ (n:=(k:Int)) (by omega)) ?_)
 have hk2:dl k≤1:=aB8 (by
  have:PB 1=1000000000:=by decide
  omega)
 refine Ev.bind (vL (x:=(n:Int)) (y:=(k:Int)) (by simp;omega)) ?_
 have:(Z ((n:Int)*k)).d=cK (n*k):=by rw [←Int.natCast_mul,aFG]
 rw [this]
 exact Ev.pure _
theorem aQh (a b:Int):decide (wC a b≤0)=decide (a≤b):=by
 unfold wC
 by_cases h:a<b
 ·rw [if_pos h,dT (by omega),dT (by omega)]
 ·rw [if_neg h]
  by_cases h2:b<a
  ·rw [if_pos h2,dF (by omega),dF (by omega)]
  ·rw [if_neg h2,dT (by omega),dT (by omega)]
theorem aQj (a b:Int):decide (wC a b<0)=decide (a<b):=by
 unfold wC
 by_cases h:a<b
 ·rw [if_pos h,dT (by omega),dT h]
 ·rw [if_neg h,dF h]
  by_cases h2:b<a
  ·rw [if_pos h2];rfl
  ·rw [if_neg h2];rfl
theorem aCY {n R:Nat} (hn:0<n) (hL:dl n≤40000000000) (hR:dl R≤90000000000):∀(t lo hi:Nat),hi-lo≤t→lo≤hi→hi≤999999999→lo*n≤R→R<(hi+1)*n→vV (fun K k=>b0 K (cK n) (Z (R:Int)) k (lo:Int) (hi:Int)) ((R/n:Nat):Int):=by
 intro t
 induction t with
 |zero=>
  intro lo hi ht hle hhi h1 h2
  have:lo=hi:=by omega
  subst this
  refine vV.of 1 fun K k hk=>?_
  obtain⟨k',rfl,_⟩:=bG (n:=0) hk
  have:R/n=lo:=Nat.div_eq_of_lt_le h1 h2
  simp only [b0,dF (show¬(lo:Int)<(lo:Int) by omega),bV,this]
 |succ t ih=>
  intro lo hi ht hle hhi h1 h2
  by_cases hlt:lo<hi
  ·refine vV.step ?_
   have e1:aY ((lo:Int)+(hi:Int))=some ((lo+hi:Nat):Int):=ckN (m:=0) (by omega) (by omega)
   have e2:aY (((lo+hi:Nat):Int)+1)=some ((lo+hi+1:Nat):Int):=ckN (m:=0) (by omega) (by omega)
   have e3:yJ ((lo+hi+1:Nat):Int) 2=some (((lo+hi+1)/2:Nat):Int):=by rw [t8 (by omega) (by omega) (by omega)];congr 1
   obtain⟨mid,hm⟩:∃m,(lo+hi+1)/2=m:=⟨_,rfl⟩
   rw [hm] at e3
   have hm1:lo<mid:=by omega
   have hm2:mid≤hi:=by omega
   simp only [b0,dT (show(lo:Int)<(hi:Int) by omega),cC,e1,e2,e3,oB]
   refine vV.bind (aEt n mid (by omega) hL) ?_
   have hdm:dl (n*mid)≤9000000000000:=by
    have:=aDv n mid
    have:dl mid≤1:=aB8 (by
     have:PB 1=1000000000:=by decide
     omega)
    omega
   rw [aFG]
   refine vV.bind (vK (cG _) (cG _) (oS _) (oS _) hdm) ?_
   rw [d6,d6,aQh]
   by_cases hc:n*mid≤R
   ·have e4:decide (((n*mid:Nat):Int)≤(R:Int))=true:=dT (by omega)
    simp only [e4,cC]
    exact ih mid hi (by omega) hm2 hhi (by rw [Nat.mul_comm];exact hc) h2
   ·have e4:decide (((n*mid:Nat):Int)≤(R:Int))=false:=dF (by omega)
    have e5:aY ((mid:Int)-1)=some ((mid-1:Nat):Int):=ckN (m:=0) (by omega) (by omega)
    simp only [e4,bV,e5,oB]
    refine ih lo (mid-1) (by omega) (by omega) (by omega) h1 ?_
    rw [show mid-1+1=mid by omega,Nat.mul_comm]
    omega
  ·have:lo=hi:=by omega
   subst this
   refine vV.of 1 fun K k hk=>?_
   obtain⟨k',rfl,_⟩:=bG (n:=0) hk
   have:R/n=lo:=Nat.div_eq_of_lt_le h1 h2
   simp only [b0,dF (show¬(lo:Int)<(lo:Int) by omega),bV,this]
theorem aDk {a:List Int} {n:Nat} (ha:l4 a) (hn:0<n) (hL:dl n≤40000000000) (hM:a.length≤40000000000):∀(j:Nat) (q:List Int) (r:Nat),j≤a.length→q.length=a.length→Dr q j (a.length-j)→r<n→W a j (a.length-j)=n*W q j (a.length-j)+r→
  ∃q' r',q'.length=a.length∧l4 q'∧r'<n∧vD a=n*vD q'+(r':Nat)∧vV (fun K k=>bQ K a (cK n) k q (cK r) ((j:Int)-1)) (q',cK r')
 |0,q,r,hj,hq,hD,hr,hI=>by
  refine⟨q,r,hq,Dr.ok (by rw [hq];simpa using hD),hr,?_,vV.of 1 fun K k hk=>?_⟩
  ·simp only [Nat.sub_zero] at hI
   unfold vD
   rw [hq];exact hI
  ·obtain⟨k',rfl,_⟩:=bG (n:=0) hk
   simp [bQ]
 |j+1,q,r,hj,hq,hD,hr,hI=>by
  have ha':=ha j
  have e0:((j+1:Nat):Int)-1=(j:Int):=by omega
  have e1:decide (0≤(j:Int))=true:=dT (by omega)
  have e2:=dA (xs:=a) (i:=j) (by omega)
  have e3:aY ((j:Int)-1)=some ((j:Int)-1):=lL (by omega)
  have e4:=dA (xs:=q) (i:=j) (by omega)
  have e5:∀v,p9 q (j:Int) v=some (q.set j v):=fun v=>uC (by omega)
  have hrl:dl r≤dl n:=sD (by omega)
  have hrl':(cK r).length=dl r:=rfl
  have e6:oT [a.getD j 0] (cK r)=some (a.getD j 0::cK r):=vY (by simp;omega)
  obtain⟨R,hR⟩:∃R:Nat,(R:Int)=a.getD j 0+1000000000*r:=⟨(a.getD j 0+1000000000*r).toNat,by omega⟩
  have hd:l4 (a.getD j 0::cK r):=(cG r).cons ha'.1 ha'.2
  have hv:vD (a.getD j 0::cK r)=R:=by
   rw [hR]
   have:vD (a.getD j 0::cK r)=a.getD j 0+1000000000*vD (cK r):=aJt _ _
   rw [this,d6]
  have h1:=kF false hd (by simp;omega)
  rw [hv,Int.toNat_natCast,oI] at h1
  have hRn:R<1000000000*n:=by
   have:(R:Int)<1000000000*n:=by omega
   omega
  have hRl:dl R≤dl n+1:=aB8 (by
   have:=aEy n
   simp only [PB]
   omega)
  have hq1:R/n<1000000000:=Nat.div_lt_of_lt_mul (by rw [Nat.mul_comm];exact hRn)
  have hnm:=Nat.div_add_mod R n
  have hml:=Nat.mod_lt R hn
  have hdig:Ev (fun K=>(bif decide (R<n) then b0 K (cK n) (Z (R:Int)) K 0 0 else b0 K (cK n) (Z (R:Int)) K 0 999999999)) ((R/n:Nat):Int):=by
   by_cases hlt:R<n
   ·rw [dT hlt];simp only [cC]
    exact(aCY hn hL (by omega) 0 0 0 (by omega) (by omega) (by omega) (by omega) (by omega)).ev
   ·rw [dF hlt];simp only [bV]
    exact(aCY hn hL (by omega) 999999999 0 999999999 (by omega) (by omega) (by omega) (by omega) (by omega)).ev
  have h2:=aEt n (R/n) (by omega) hL
  have hle:n*(R/n)≤R:=by omega
  obtain⟨s,s1,s2,s3,s4⟩:=aAT (cG R) (cG (n*(R/n))) (sD hle) (by rw [d6,d6];omega) (by show dl R≤_;omega)
  rw [d6,d6] at s3
  have h3:=kF false s2 (by rw [s1];show dl R≤_;omega)
  have hs:(vD s).toNat=R%n:=by omega
  rw [hs,oI] at h3
  have es:a.length-j=(a.length-(j+1))+1:=by omega
  obtain⟨q',r',g1,g2,g3,g4,g5⟩:=aDk ha hn hL hM j (q.set j ((R/n:Nat):Int)) (R%n) (by omega) (by simpa using hq)
   (fun i hi=>by
    by_cases e:i=0
    ·subst e;rw [Nat.add_zero,eR (by omega)];exact⟨Int.natCast_nonneg _,Int.ofNat_lt.2 hq1⟩
    ·rw [fT (by omega)]
     have:=hD (i-1) (by omega)
     rwa [show j+1+(i-1)=j+i by omega] at this) hml (by
    rw [es,aCf,aCf,eR (by omega),yG (.inl (by omega)),hI]
    have:(R:Int)=n*(R/n:Nat)+(R%n:Nat):=by rw [←Int.natCast_mul,←Int.natCast_add,hnm]
    grind)
  refine⟨q',r',g1,g2,g3,g4,vV.step ?_⟩
  rw [e0]
  simp only [bQ,e1,e2,e6,cC,oB]
  refine vV.bind h1 ?_
  rw [aFG]
  refine vV.bind (vK (cG _) (cG _) (oS _) (oS _) (by show dl R≤_;omega)) ?_
  rw [d6,d6,aQj]
  have bN:vV (fun K k=>iV K (cK n) q (j:Int) (Z (R:Int)) (bQ K a (cK n) k) ((R/n:Nat):Int)) (q',cK r'):=by
   simp only [iV]
   refine vV.bind h2 ?_
   rw [aFG]
   refine vV.bind s4 (vV.bind h3 ?_)
   simp only [e3,e4,e5,oB,aFG]
   exact g5
  by_cases hlt:R<n
  ·have c1:decide ((R:Int)<(n:Int))=true:=dT (by omega)
   rw [dT hlt] at hdig
   simp only [cC] at hdig
   simp only [c1,cC,f7]
   exact vV.bind hdig bN
  ·have c1:decide ((R:Int)<(n:Int))=false:=dF (by omega)
   rw [dF hlt] at hdig
   simp only [bV] at hdig
   simp only [c1,bV,f7]
   exact vV.bind hdig bN
theorem aFn (K:Nat) (b:List Int) (x:aM):∀(k:Nat) (lo hi:Int),fI K b x k lo hi=b0 K b x k lo hi
 |0,_,_=>rfl
 |k+1,lo,hi=>by simp only [fI,b0,aFn K b x k]
theorem aEv (K:Nat) (a b:List Int):∀(k:Nat) (q r:List Int) (j:Int),cV K a b k q r j=bQ K a b k q r j
 |0,_,_,_=>rfl
 |k+1,q,r,j=>by
  have ih:cV K a b k=bQ K a b k:=by funext q r j;exact aEv K a b k q r j
  simp only [cV,bQ,kD,f7,mM,iV,aFn,ih]
theorem aGK {m n:Nat} (hn:0<n) (hL:dl n≤40000000000) (hM:dl m≤40000000000):∃q,q.length≤dl m+2∧l4 q∧vD q=(m/n:Nat)∧Ev (fun K=>jL K (cK m) (cK n)) (q,cK (m%n)):=by
 have dm:=cG m;have dn:=cG n
 have vm:=d6 m;have vn:=d6 n
 have lm:(cK m).length=dl m:=rfl
 have ln:(cK n).length=dl n:=rfl
 obtain⟨q,r,g1,g2,g3,g4,g5⟩:=aDk (a:=cK m) dm hn hL (by omega) (cK m).length (List.replicate (cK m).length 0) 0 (Nat.le_refl _) (by simp) (aHq _ _ _) hn (by simp [W])
 rw [vm] at g4
 have hqn:=g2.nonneg
 have hmn:m=n*(vD q).toNat+r:=by
  have:(m:Int)=((n*(vD q).toNat+r:Nat):Int):=by rw [g4,Int.natCast_add,Int.natCast_mul,Int.toNat_of_nonneg hqn]
  omega
 have hq:(vD q).toNat=m/n:=by
  rw [hmn,Nat.mul_add_div hn,Nat.div_eq_of_lt g3,Nat.add_zero]
 have hr:r=m%n:=by rw [hmn,Nat.mul_add_mod,Nat.mod_eq_of_lt g3]
 subst hr
 rw [zT] at g5
 have e1:xI ((cK m).length:Int) (0:Int)=some (List.replicate (cK m).length 0):=aAU (by omega)
 have e2:aY (((cK m).length:Int)-1)=some (((cK m).length:Int)-1):=lL (by omega)
 have core:Ev (fun K=>(xI ((cK m).length:Int) (0:Int)).bind fun x23=>(aY (((cK m).length:Int)-1)).bind fun v28=>(bQ K (cK m) (cK n) K x23 [] v28).bind fun(x46,x52)=>kU K x46 x52) (q,cK (m%n)):=by
  simp only [e1,e2,oB]
  refine Ev.bind g5.ev ?_
  simp only [kU]
  exact Ev.pure _
 by_cases h1:(cK m).length≤2
 ·by_cases h2:(cK n).length≤2
  ·have b1:=zC h1
   have b2:=zC h2
   have hd:=Nat.div_le_self m n
   have hm:=Nat.mod_le m n
   refine⟨cK (m/n),by have:=aI4 m n;show dl _≤_;omega,cG _,d6 _,?_⟩
   have c1:yJ (m:Int) (n:Int)=some ((m/n:Nat):Int):=by rw [t8 (by omega) (by omega) (by omega)];simp
   have c2:xF (m:Int) (n:Int)=some ((m%n:Nat):Int):=by rw [oP (by omega) (by omega)];simp
   unfold jL
   simp only [dT (show((cK m).length:Int)≤2 by omega),dT (show((cK n).length:Int)≤2 by omega),cC,aBH dm h1,aBH dn h2,vm,vn,c1,c2,oB]
   refine Ev.bind (aAJ (by omega)) (Ev.bind (aAJ (by omega)) ?_)
   rw [aFG,aFG]
   exact Ev.pure _
  ·refine⟨q,by omega,g2,by omega,?_⟩
   unfold jL
   simp only [dT (show((cK m).length:Int)≤2 by omega),dF (show¬((cK n).length:Int)≤2 by omega),cC,bV]
   exact core
 ·refine⟨q,by omega,g2,by omega,?_⟩
  unfold jL
  simp only [dF (show¬((cK m).length:Int)≤2 by omega),bV,aEv]
  exact core
theorem aDq {x y a b:Int} (hy:y≠0) (h1:x=y*a+b) (h2:0≤b) (h3:b<y.natAbs):x/y=a∧x%y=b:=by
 have hm:x%y=b:=by
  rw [h1,Int.add_comm,Int.add_mul_emod_self_left]
  by_cases hy0:y<0
  ·have:b%y=b% -y:=by rw [Int.emod_neg]
   rw [this,Int.emod_eq_of_lt h2 (by omega)]
  ·exact Int.emod_eq_of_lt h2 (by omega)
 refine⟨?_,hm⟩
 have h4:=Int.mul_ediv_add_emod x y
 exact Int.eq_of_mul_eq_mul_left hy (by omega)
theorem aET {x y:Int} (hy:y≠0) (hx:dl x.natAbs≤30000000000) (hy2:dl y.natAbs≤30000000000):Ev (fun K=>k7 K (Z x) (Z y)) (Z (x/y),Z (x%y)):=by
 have e1:(((cK y.natAbs).length:Int)==0)=false:=qF (by
  show(dl y.natAbs:Int)≠0
  have:dl y.natAbs≠0:=by rw [Ne,wG];omega
  omega)
 obtain⟨q,q1,q2,q3,q4⟩:=aGK (m:=x.natAbs) (n:=y.natAbs) (by omega) (by omega) (by omega)
 have hdm:=aI4 x.natAbs y.natAbs
 have hmm:=aGM x.natAbs y.natAbs
 have hnd:=Nat.div_add_mod x.natAbs y.natAbs
 have hml:=Nat.mod_lt x.natAbs (show 0<y.natAbs by omega)
 have hln:(cK (x.natAbs%y.natAbs)).length=dl (x.natAbs%y.natAbs):=rfl
 have o1:=kF (decide (x<0) != decide (y<0)) q2 (by omega)
 have o2:=kF false (cG (x.natAbs%y.natAbs)) (by omega)
 rw [q3,Int.toNat_natCast,u7] at o1
 rw [d6,Int.toNat_natCast,oI] at o2
 unfold k7
 simp only [Z_d,uU,e1,bV]
 refine Ev.bind q4 (Ev.bind o1 (Ev.bind o2 ?_))
 have c1:(x.natAbs:Int)=(y.natAbs:Int)*((x.natAbs/y.natAbs:Nat):Int)+((x.natAbs%y.natAbs:Nat):Int):=by
  rw [←Int.natCast_mul,←Int.natCast_add,hnd]
 generalize x.natAbs/y.natAbs=Q at *
 generalize x.natAbs%y.natAbs=R at *
 by_cases hx0:x<0
 ·have e2:decide (x<0)=true:=dT hx0
  by_cases hR:R=0
  ·subst hR
   have e3:decide (0<((Z ((0:Nat):Int)).d.length:Int))=false:=by rw [Z_d,show((0:Nat):Int).natAbs=0 from rfl,zT];rfl
   simp only [e2,e3,cC,bV]
   by_cases hy0:y<0
   ·rw [dT hy0]
    rw [show(y.natAbs:Int)=-y by omega,show(x.natAbs:Int)=-x by omega,Int.neg_mul] at c1
    obtain⟨u1,u2⟩:=aDq (x:=x) (y:=y) (a:=Q) (b:=0) hy (by omega) (by omega) (by omega)
    rw [u1,u2]
    exact Ev.pure _
   ·rw [dF hy0]
    rw [show(y.natAbs:Int)=y by omega,show(x.natAbs:Int)=-x by omega] at c1
    obtain⟨u1,u2⟩:=aDq (x:=x) (y:=y) (a:=-Q) (b:=0) hy (by rw [Int.mul_neg];omega) (by omega) (by omega)
    rw [u1,u2]
    exact Ev.pure _
  ·have hrl:dl R≠0:=by rw [Ne,wG];exact hR
   have e3:decide (0<((Z (R:Int)).d.length:Int))=true:=dT (by rw [tF];simp only [Int.natAbs_natCast];omega)
   simp only [e2,e3,cC]
   have o3:=kF (true != decide (y<0)) (u:=[1]) (l4.nil.cons (by omega) (by omega)) (by simp)
   rw [vD1,show(1:Int).toNat=1 from rfl,u7] at o3
   obtain⟨s,s1,s2,s3,s4⟩:=aAT (cG y.natAbs) (cG R) (sD (by omega)) (by rw [d6,d6];omega) (by show dl _≤_;omega)
   rw [d6,d6] at s3
   have o4:=kF false s2 (by rw [s1];show dl _≤_;omega)
   rw [s3,oI] at o4
   refine Ev.bind o3 ?_
   have hsz:∀b:Bool,dl (if b=true then -(Q:Int) else(Q:Int)).natAbs≤40000000000:=fun b=>by
    cases b<;>simp<;>omega
   have hsz1:∀b:Bool,dl (if b=true then -((1:Nat):Int) else((1:Nat):Int)).natAbs≤40000000000:=fun b=>by
    have:dl 1≤1:=aB8 (by decide)
    cases b<;>simp<;>omega
   refine Ev.bind (aHY (hsz _) (hsz1 _)) ?_
   rw [aFG]
   refine Ev.bind s4 (Ev.bind o4 ?_)
   by_cases hy0:y<0
   ·rw [dT hy0]
    rw [show(y.natAbs:Int)=-y by omega,show(x.natAbs:Int)=-x by omega,Int.neg_mul] at c1
    obtain⟨u1,u2⟩:=aDq (x:=x) (y:=y) (a:=Q+1) (b:=y.natAbs-R) hy (by rw [Int.mul_add];omega) (by omega) (by omega)
    rw [u1,u2]
    have:(((y.natAbs:Int)-R).toNat:Int)=y.natAbs-R:=by omega
    rw [this]
    exact Ev.pure _
   ·rw [dF hy0]
    rw [show(y.natAbs:Int)=y by omega,show(x.natAbs:Int)=-x by omega] at c1
    obtain⟨u1,u2⟩:=aDq (x:=x) (y:=y) (a:=-(Q+1)) (b:=y.natAbs-R) hy (by rw [Int.mul_neg,Int.mul_add];omega) (by omega) (by omega)
    rw [u1,u2]
    have:(((y.natAbs:Int)-R).toNat:Int)=y.natAbs-R:=by omega
    rw [this,Int.neg_add]
    exact Ev.pure _
 ·have e2:decide (x<0)=false:=dF hx0
  simp only [e2,bV]
  by_cases hy0:y<0
  ·rw [dT hy0]
   rw [show(y.natAbs:Int)=-y by omega,show(x.natAbs:Int)=x by omega,Int.neg_mul] at c1
   obtain⟨u1,u2⟩:=aDq (x:=x) (y:=y) (a:=-Q) (b:=R) hy (by rw [Int.mul_neg];omega) (by omega) (by omega)
   rw [u1,u2]
   exact Ev.pure _
  ·rw [dF hy0]
   rw [show(y.natAbs:Int)=y by omega,show(x.natAbs:Int)=x by omega] at c1
   obtain⟨u1,u2⟩:=aDq (x:=x) (y:=y) (a:=Q) (b:=R) hy (by omega) (by omega) (by omega)
   rw [u1,u2]
   exact Ev.pure _
theorem aMQ (K:Nat):∀(n m k:Nat),n<k→iE K k (m:Int) (n:Int)=some ((Nat.gcd m n:Nat):Int):=by
 intro n
 induction n using Nat.strongRecOn with
 |_ n ih=>
  intro m k hk
  obtain⟨k',rfl,_⟩:=bG hk
  by_cases h:n=0
  ·subst h
   simp [iE]
  ·have e1:decide (0<(n:Int))=true:=dT (by omega)
   have e2:xF (m:Int) (n:Int)=some ((m%n:Nat):Int):=by rw [oP (by omega) (by omega)];simp
   simp only [iE,e1,cC,e2,oB]
   have hlt:=Nat.mod_lt m (show 0<n by omega)
   rw [ih (m%n) hlt n k' (by omega)]
   congr 2
   rw [Nat.gcd_comm m n,Nat.gcd_rec n m,Nat.gcd_comm]
theorem aM6:∀(n m:Nat),dl m≤30000000000→dl n≤30000000000→∃r,vV (fun K k=>fK K k (Z (n:Int)) (Z (m:Int))) r∧(r=.ret (Z (Nat.gcd m n:Nat))∨r=.go (Z (Nat.gcd m n:Nat))):=by
 intro n
 induction n using Nat.strongRecOn with
 |_ n ih=>
  intro m hm hn
  by_cases h:n=0
  ·subst h
   refine⟨.go (Z m),vV.of 1 fun K k hk=>?_,.inr (by simp)⟩
   obtain⟨k',rfl,_⟩:=bG (n:=0) hk
   have e:decide (0<((Z ((0:Nat):Int)).d.length:Int))=false:=by rw [tF,show((0:Nat):Int).natAbs=0 from rfl,wX];rfl
   simp only [fK,e,bV]
  ·have e1:decide (0<((cK n).length:Int))=true:=dT (by
    show(0:Int)<dl n
    have hl:dl n≠0:=by rw [Ne,wG];exact h
    omega)
   have hlt:=Nat.mod_lt m (show 0<n by omega)
   obtain⟨r,h1,h2⟩:=ih (m%n) hlt n hn (Nat.le_trans (aGM _ _) hm)
   have hg:Nat.gcd n (m%n)=Nat.gcd m n:=by rw [Nat.gcd_comm m n,Nat.gcd_rec n m,Nat.gcd_comm]
   rw [hg] at h2
   have hdiv:=aET (x:=(m:Int)) (y:=(n:Int)) (by omega) (by simpa using hm) (by simpa using hn)
   rw [←Int.natCast_emod] at hdiv
   by_cases hs:dl m≤2∧dl n≤2
   ·refine⟨.ret (Z (Nat.gcd m n:Nat)),vV.step ?_,.inl rfl⟩
    have b1:=zC (n:=m) hs.1
    have b2:=zC (n:=n) hs.2
    have hgl:Nat.gcd m n≤n:=Nat.gcd_le_right m (by omega)
    have f1:decide (((cK m).length:Int)≤2)=true:=dT (by have:(cK m).length=dl m:=rfl;omega)
    have f2:decide (((cK n).length:Int)≤2)=true:=dT (by have:(cK n).length=dl n:=rfl;omega)
    simp only [fK,e1,f1,f2,cC,aFG,aBH (cG m) hs.1,aBH (cG n) hs.2,d6,oB]
    refine vV.bind (x:=((Nat.gcd m n:Nat):Int)) (f:=fun K=>iE K K (m:Int) (n:Int)) ⟨n+1,fun K hK=>aMQ K n m K (by omega)⟩ ?_
    simp only [rJ]
    exact vV.bind (aAJ (by omega)) (vV.of 0 fun _ _ _=>rfl)
   ·refine⟨r,vV.step ?_,h2⟩
    simp only [fK,e1,cC,aFG]
    by_cases hs1:dl m≤2
    ·have f1:decide (((cK m).length:Int)≤2)=true:=dT (by have:(cK m).length=dl m:=rfl;omega)
     have f2:decide (((cK n).length:Int)≤2)=false:=dF (by have:(cK n).length=dl n:=rfl;omega)
     simp only [f1,f2,cC,bV]
     exact vV.bind hdiv h1
    ·have f1:decide (((cK m).length:Int)≤2)=false:=dF (by have:(cK m).length=dl m:=rfl;omega)
     simp only [f1,bV]
     exact vV.bind hdiv h1
theorem aIl {x y:Int} (hx:dl x.natAbs≤30000000000) (hy:dl y.natAbs≤30000000000):Ev (fun K=>oX K (Z x) (Z y)) (Z (Int.gcd x y:Nat)):=by
 unfold oX
 have h1:=kF false (cG x.natAbs) (by show dl _≤_;omega)
 have h2:=kF false (cG y.natAbs) (by show dl _≤_;omega)
 rw [d6,oI,Int.toNat_natCast] at h1 h2
 simp only [Z_d]
 refine Ev.bind h1 (Ev.bind h2 ?_)
 obtain⟨r,h3,h4⟩:=aM6 y.natAbs x.natAbs hx hy
 refine Ev.bind h3.ev ?_
 rcases h4 with rfl|rfl
 ·exact Ev.pure _
 ·exact Ev.pure _
theorem aC6 {x y:Int} (hx:dl x.natAbs≤40000000000) (hy:dl y.natAbs≤40000000000):Ev (fun K=>lI K (Z x) (Z y)) (wC x y):=by
 have dx:=cG x.natAbs;have dy:=cG y.natAbs
 have tx:=oS x.natAbs;have ty:=oS y.natAbs
 have lx:(cK x.natAbs).length=dl x.natAbs:=rfl
 have ly:(cK y.natAbs).length=dl y.natAbs:=rfl
 unfold lI
 simp only [Z_d,uU]
 by_cases h1:x<0
 ·by_cases h2:y<0
  ·simp only [dT h1,dT h2,bne_self_eq_false,bV,cC]
   have h:=vK dy dx ty tx (by omega)
   rw [d6,d6] at h
   have e:wC (y.natAbs:Int) (x.natAbs:Int)=wC x y:=by
    unfold wC
    by_cases a:x<y
    ·rw [if_pos a,if_pos (by omega)]
    ·rw [if_neg a,if_neg (by omega)]
     by_cases b:y<x
     ·rw [if_pos b,if_pos (by omega)]
     ·rw [if_neg b,if_neg (by omega)]
   rw [e] at h
   exact Ev.bind h (Ev.pure _)
  ·have e:(decide (x<0) != decide (y<0))=true:=by rw [dT h1,dF h2];rfl
   simp only [e,cC]
   simp only [dT h1,cC]
   unfold wC
   rw [if_pos (by omega)]
   exact Ev.pure _
 ·by_cases h2:y<0
  ·have e:(decide (x<0) != decide (y<0))=true:=by rw [dF h1,dT h2];rfl
   simp only [e,cC]
   simp only [dF h1,bV]
   unfold wC
   rw [if_neg (by omega),if_pos (by omega)]
   exact Ev.pure _
  ·simp only [dF h1,dF h2,bne_self_eq_false,bV]
   have h:=vK dx dy tx ty (by omega)
   rw [d6,d6,show(x.natAbs:Int)=x by omega,show(y.natAbs:Int)=y by omega] at h
   exact Ev.bind h (Ev.pure _)
theorem aLt {x:Int} (hx:dl x.natAbs≤40000000000):Ev (fun K=>qZ K (Z x)) x.sign:=by
 unfold qZ
 have h:=aC6 (x:=x) (y:=0) hx (by rw [show Int.natAbs 0=0 from rfl,wX];omega)
 have e:Z 0=(⟨false,[]⟩:aM):=by rw [show(0:Int)=((0:Nat):Int) from rfl,←oI];rfl
 rw [e] at h
 have e2:wC x 0=x.sign:=by
  unfold wC
  by_cases a:x<0
  ·rw [if_pos a,Int.sign_eq_neg_one_of_neg a]
  ·rw [if_neg a]
   by_cases b:0<x
   ·rw [if_pos b,Int.sign_eq_one_of_pos b]
   ·have:x=0:=by omega
    subst this;rfl
 rw [e2] at h
 exact Ev.bind h (Ev.pure _)
theorem aHX (x y:aM) (hl:x.d.length=y.d.length) (hL:x.d.length≤9000000000000):∀(t i:Nat),i+t=x.d.length→∀K k,t<k→iA K x y k (i:Int)=some (if x.d.drop i=y.d.drop i then .go () else .ret false)
 |0,i,hi,K,k,hk=>by
  obtain⟨k',rfl,_⟩:=bG hk
  have:i=x.d.length:=by omega
  subst this
  simp only [iA,dF (show¬(x.d.length:Int)<(x.d.length:Int) by omega),bV]
  rw [if_pos]
  rw [List.drop_of_length_le (Nat.le_refl _),List.drop_of_length_le (by omega)]
 |t+1,i,hi,K,k,hk=>by
  obtain⟨k',rfl,_⟩:=bG hk
  have e1:decide ((i:Int)<(x.d.length:Int))=true:=dT (by omega)
  have e2:=dA (xs:=x.d) (i:=i) (by omega)
  have e3:=dA (xs:=y.d) (i:=i) (by omega)
  have e5:aY ((i:Int)+1)=some ((i+1:Nat):Int):=ckN (m:=0) (by omega) (by omega)
  have dx:x.d.drop i=x.d.getD i 0::x.d.drop (i+1):=by
   rw [List.drop_eq_getElem_cons (by omega)];simp [List.getD_eq_getElem?_getD,show i<x.d.length by omega]
  have dy:y.d.drop i=y.d.getD i 0::y.d.drop (i+1):=by
   rw [List.drop_eq_getElem_cons (by omega)];simp [List.getD_eq_getElem?_getD,show i<y.d.length by omega]
  by_cases h:x.d.getD i 0=y.d.getD i 0
  ·have ih:=aHX x y hl hL t (i+1) (by omega) K k' (by omega)
   simp only [iA,e1,e2,e3,e5,nF h,cC,bV,oB,ih]
   by_cases hd:x.d.drop (i+1)=y.d.drop (i+1)
   ·rw [if_pos hd,if_pos (by rw [dx,dy,h,hd])]
   ·rw [if_neg hd,if_neg (by rw [dx,dy];intro e;exact hd (List.cons.inj e).2)]
  ·simp only [iA,e1,e2,e3,nT h,cC,oB]
   rw [if_neg (by rw [dx,dy];intro e;exact h (List.cons.inj e).1)]
theorem aFW (x y:aM) (hL:x.d.length≤9000000000000):Ev (fun K=>nS K x y) (decide (x=y)):=by
 refine⟨x.d.length+1,fun K hK=>?_⟩
 unfold nS
 by_cases h1:x.neg=y.neg
 ·have e1:(x.neg != y.neg)=false:=by rw [h1];exact bne_self_eq_false _
  by_cases h2:x.d.length=y.d.length
  ·have e2:((x.d.length:Int) != (y.d.length:Int))=false:=nF (by omega)
   have h:=aHX x y h2 hL x.d.length 0 (by omega) K K (by omega)
   simp only [Int.natCast_zero,List.drop_zero] at h
   simp only [e1,e2,bV,h,oB]
   by_cases h3:x.d=y.d
   ·rw [if_pos h3,dT (by cases x;cases y;simp_all)];rfl
   ·rw [if_neg h3,dF (by intro e;subst e;exact h3 rfl)]
  ·have e2:((x.d.length:Int) != (y.d.length:Int))=true:=nT (by omega)
   simp only [e1,e2,bV,cC]
   rw [dF (by intro e;subst e;exact h2 rfl)]
 ·have e1:(x.neg != y.neg)=true:=bne_iff_ne.2 h1
  simp only [e1,cC]
  rw [dF (by intro e;subst e;exact h1 rfl)]
end Go.Proofs.YtcjdedkdoagifaaGreat
set_option linter.unusedVariables false
set_option maxRecDepth 100000
namespace Go.Proofs.YtcjdedkdoagifaaGreat
instance tyA44:TyA Tryz.prog 44 4:=mkA Tryz.underlying44 rfl (by kernel_rfl)
theorem tyB44:TyB Tryz.prog 44 [(0,2),(2,2)] (([pB false]++[pS cI ([]:List Int)])++([pB false]++[pS cI ([]:List Int)])):=mkB (z:=.agg #[.bool false,.slice none 0 0,.bool false,.slice none 0 0]) (by kernel_rfl) Tryz.underlying44 (by kernel_rfl) (fun M=>bE.app (bE.app (show bE M [pB false] [.bool false] from zU1) (show bE M [pS cI ([]:List Int)] [.slice none 0 0] from⟨cR cI M,trivial⟩)) (bE.app (show bE M [pB false] [.bool false] from zU1) (show bE M [pS cI ([]:List Int)] [.slice none 0 0] from⟨cR cI M,trivial⟩)))
instance tyF44_0:TyF Tryz.prog 44 0 0:=mkF (ft:=42) (k:=1) Tryz.underlying44 rfl rfl rfl (by kernel_rfl)
instance tyF44_1:TyF Tryz.prog 44 1 2:=mkF (ft:=42) (k:=1) Tryz.underlying44 rfl rfl rfl (by kernel_rfl)
instance tyZ44:TyZ Tryz.prog 44 (([pB false]++[pS cI ([]:List Int)])++([pB false]++[pS cI ([]:List Int)])):=mkZ (z:=.agg #[.bool false,.slice none 0 0,.bool false,.slice none 0 0]) (k:=4) (by kernel_rfl) rfl (fun M=>bE.app (bE.app (show bE M [pB false] [.bool false] from zU1) (show bE M [pS cI ([]:List Int)] [.slice none 0 0] from⟨cR cI M,trivial⟩)) (bE.app (show bE M [pB false] [.bool false] from zU1) (show bE M [pS cI ([]:List Int)] [.slice none 0 0] from⟨cR cI M,trivial⟩)))
def lE (a0:aM):Option Bool:=
 bif a0.neg then(some false) else(bif((a0.d.length:Int) != 1) then(some false) else((bU a0.d 0).bind fun v4=>some (v4==1)))
theorem tP {a0:aM} {r:Bool} (hF:lE a0=some r):Ct Tryz.prog 169 [.va (aM.e a0)] (.vc (pB r)):=by
 unfold lE at hF
 refine aJ Tryz.func169 rfl (by kernel_rfl) Tryz.ntmps169 rfl (fun w0 M0=>?_)
 refine aO (aT (cB rfl rfl trivial (fun b1=>?_)))
 refine go ?_ ?_
 refine cU hF (fun h2 hF=>?_) (fun h2 hF=>?_)
 ·refine go ?_ ?_
  refine gH rfl ?_
  exact bN
 refine go ?_ ?_
 refine aK hF rfl (fun h3 hF=>?_) (fun h3 hF=>?_)
 ·exact bN
 obtain⟨v4,h5,hF⟩:=aV hF
 exact bN
def gV (K:Nat) (a0:aM) (a1:aM):Option bX:=
 bif((a1.d.length:Int)==0) then(some (⟨(⟨false,([]:List Int)⟩:aM),(⟨false,([]:List Int)⟩:aM)⟩:bX)) else(bif((a0.d.length:Int)==0) then(some (⟨(⟨false,([]:List Int)⟩:aM),(⟨false,([]:List Int)⟩:aM)⟩:bX)) else((oX K a0 a1).bind fun v6=>(k7 K a0 v6).bind fun v9=>(k7 K a1 v6).bind fun v13=>bif v13.1.neg then((mI K v9.1).bind fun v18=>(mI K v13.1).bind fun v20=>(lE v20).bind fun v22=>bif v22 then(some (⟨v18,(⟨false,([]:List Int)⟩:aM)⟩:bX)) else(some (⟨v18,v20⟩:bX))) else((lE v13.1).bind fun v25=>bif v25 then(some (⟨v9.1,(⟨false,([]:List Int)⟩:aM)⟩:bX)) else(some (⟨v9.1,v13.1⟩:bX)))))
theorem sV {K:Nat} {a0:aM} {a1:aM} {r:bX} (hF:gV K a0 a1=some r):Ct Tryz.prog 93 [.va (aM.e a0),.va (aM.e a1)] (.va (bX.e r)):=by
 unfold gV at hF
 refine aJ Tryz.func93 rfl (by kernel_rfl) Tryz.ntmps93 rfl (fun w0 M0=>?_)
 refine aO (aT (cB rfl rfl trivial (fun b1=>?_)))
 refine cB rfl rfl trivial (fun b2=>?_)
 refine aS rfl tyZ44 (fun b3=>?_)
 refine go ?_ ?_
 refine cU hF (fun h4 hF=>?_) (fun h4 hF=>?_)
 ·refine go ?_ ?_
  refine gH rfl ?_
  refine aO (aT (aU (cA (is:=[]) (xs:=[]) (ps:=[]) rfl tyB44 rfl rfl trivial rfl) trivial ?_))
  exact bN
 refine go ?_ ?_
 refine aK hF rfl (fun h5 hF=>?_) (fun h5 hF=>?_)
 ·refine aO (aT (aU (cA (is:=[]) (xs:=[]) (ps:=[]) rfl tyB44 rfl rfl trivial rfl) trivial ?_))
  exact bN
 obtain⟨v6,h7,hF⟩:=aZ hF yU
 refine go ?_ ?_
 refine aS rfl tyZ42 (fun b8=>?_)
 obtain⟨v9,h10,hF⟩:=aZ hF tO
 refine go ?_ ?_
 refine aS rfl tyZ42 (fun b11=>?_)
 refine aS rfl tyZ42 (fun b12=>?_)
 obtain⟨v13,h14,hF⟩:=aZ hF tO
 refine go ?_ ?_
 refine aS rfl tyZ42 (fun b15=>?_)
 refine aS rfl tyZ42 (fun b16=>?_)
 refine go ?_ ?_
 refine aK hF rfl (fun h17 hF=>?_) (fun h17 hF=>?_)
 ·obtain⟨v18,h19,hF⟩:=aZ hF wF
  obtain⟨v20,h21,hF⟩:=aZ hF wF
  obtain⟨v22,h23,hF⟩:=aZ hF tP
  refine go ?_ ?_
  refine aK hF rfl (fun h24 hF=>?_) (fun h24 hF=>?_)
  ·refine go ?_ ?_
   refine aU (cA (is:=[0]) (xs:=[.tmp 44]) (ps:=[.va (aM.e v18)]) rfl tyB44 rfl rfl ⟨trivial,trivial⟩ rfl) zU1 ?_
   exact bN
  refine go ?_ ?_
  refine aU (cA (is:=[0,1]) (xs:=[.tmp 46,.tmp 47]) (ps:=[.va (aM.e v18),.va (aM.e v20)]) rfl tyB44 rfl rfl ⟨trivial,trivial,trivial⟩ rfl) zU2 ?_
  exact bN
 obtain⟨v25,h26,hF⟩:=aZ hF tP
 refine go ?_ ?_
 refine aK hF rfl (fun h27 hF=>?_) (fun h27 hF=>?_)
 ·refine go ?_ ?_
  refine aU (cA (is:=[0]) (xs:=[.tmp 44]) (ps:=[.va (aM.e v9.1)]) rfl tyB44 rfl rfl ⟨trivial,trivial⟩ rfl) zU1 ?_
  exact bN
 refine go ?_ ?_
 refine aU (cA (is:=[0,1]) (xs:=[.tmp 46,.tmp 47]) (ps:=[.va (aM.e v9.1),.va (aM.e v13.1)]) rfl tyB44 rfl rfl ⟨trivial,trivial,trivial⟩ rfl) zU2 ?_
 exact bN
abbrev aDQ:Nat:=30
def vA (K:Nat) (a0:Int) (a1:Int):Option bX:=
 (iI K a0).bind fun v2=>(iI K a1).bind fun v4=>(gV K v2 v4).bind fun v6=>some v6
theorem aC8 {K:Nat} {a0:Int} {a1:Int} {r:bX} (hF:vA K a0 a1=some r):Ct Tryz.prog 30 [.vc (pI .i64 a0),.vc (pI .i64 a1)] (.va (bX.e r)):=by
 unfold vA at hF
 refine aJ Tryz.func30 rfl (by kernel_rfl) Tryz.ntmps30 rfl (fun w0 M0=>?_)
 refine aO (aT (aS rfl tyZ44 (fun b1=>?_)))
 obtain⟨v2,h3,hF⟩:=aZ hF l9
 obtain⟨v4,h5,hF⟩:=aZ hF l9
 obtain⟨v6,h7,hF⟩:=aZ hF sV
 exact bN
def tJ (a0:aM):Option Bool:=
 bif(!a0.neg) then(bif((a0.d.length:Int)==1) then((bU a0.d 0).bind fun v4=>some (v4==1)) else(some false)) else(some false)
theorem xY {a0:aM} {r:Bool} (hF:tJ a0=some r):Ct Tryz.prog 165 [.va (aM.e a0)] (.vc (pB r)):=by
 unfold tJ at hF
 refine aJ Tryz.func165 rfl (by kernel_rfl) Tryz.ntmps165 rfl (fun w0 M0=>?_)
 refine aO (aT (cB rfl rfl trivial (fun b1=>?_)))
 refine go ?_ ?_
 refine cU hF (fun h2 hF=>?_) (fun h2 hF=>?_)
 ·refine go ?_ ?_
  refine cU hF (fun h3 hF=>?_) (fun h3 hF=>?_)
  ·obtain⟨v4,h5,hF⟩:=aV hF
   exact bN
  exact bN
 exact bN
def oC (a0:aM) (a1:aM):Option bX:=
 bif a1.neg then((sM a0).bind fun v7=>(sM a1).bind fun v9=>(tJ v9).bind fun v11=>bif v11 then(some (⟨v7,(⟨false,([]:List Int)⟩:aM)⟩:bX)) else(some (⟨v7,v9⟩:bX))) else((tJ a1).bind fun v14=>bif v14 then(some (⟨a0,(⟨false,([]:List Int)⟩:aM)⟩:bX)) else(some (⟨a0,a1⟩:bX)))
theorem vN {a0:aM} {a1:aM} {r:bX} (hF:oC a0 a1=some r):Ct Tryz.prog 98 [.va (aM.e a0),.va (aM.e a1)] (.va (bX.e r)):=by
 unfold oC at hF
 refine aJ Tryz.func98 rfl (by kernel_rfl) Tryz.ntmps98 rfl (fun w0 M0=>?_)
 refine aO (aT (cB rfl rfl trivial (fun b1=>?_)))
 refine cB rfl rfl trivial (fun b2=>?_)
 refine aS rfl tyZ44 (fun b3=>?_)
 refine go ?_ ?_
 refine aK hF rfl (fun h4 hF=>?_) (fun h4 hF=>?_)
 ·obtain⟨v7,h8,hF⟩:=aZ hF y9
  obtain⟨v9,h10,hF⟩:=aZ hF y9
  refine dr [0,1,0,7,15,31] 4 2 ?_ (fun bs6 G5=>?_)
  obtain⟨v11,h12,hF⟩:=aZ hF xY
  refine go ?_ ?_
  refine aK hF rfl (fun h13 hF=>?_) (fun h13 hF=>?_)
  ·refine go ?_ ?_
   refine aU (cA (is:=[0]) (xs:=[.tmp 13]) (ps:=[.va (aM.e v7)]) rfl tyB44 rfl rfl ⟨trivial,trivial⟩ rfl) zU1 ?_
   exact bN
  refine go ?_ ?_
  refine aU (cA (is:=[0,1]) (xs:=[.tmp 15,.tmp 16]) (ps:=[.va (aM.e v7),.va (aM.e v9)]) rfl tyB44 rfl rfl ⟨trivial,trivial,trivial⟩ rfl) zU2 ?_
  exact bN
 obtain⟨v14,h15,hF⟩:=aZ hF xY
 refine go ?_ ?_
 refine aK hF rfl (fun h16 hF=>?_) (fun h16 hF=>?_)
 ·refine go ?_ ?_
  refine aU (cA (is:=[0]) (xs:=[.tmp 13]) (ps:=[.va (aM.e a0)]) rfl tyB44 rfl rfl ⟨trivial,trivial⟩ rfl) zU1 ?_
  exact bN
 refine go ?_ ?_
 refine aU (cA (is:=[0,1]) (xs:=[.tmp 15,.tmp 16]) (ps:=[.va (aM.e a0),.va (aM.e a1)]) rfl tyB44 rfl rfl ⟨trivial,trivial,trivial⟩ rfl) zU2 ?_
 exact bN
def kG (K:Nat) (a0:aM) (a1:aM):Option bX:=
 bif((a1.d.length:Int)==0) then(some (⟨(⟨false,([]:List Int)⟩:aM),(⟨false,([]:List Int)⟩:aM)⟩:bX)) else(bif((a0.d.length:Int)==0) then(some (⟨(⟨false,([]:List Int)⟩:aM),(⟨false,([]:List Int)⟩:aM)⟩:bX)) else((tZ K a0 a1).bind fun v6=>(tJ v6).bind fun v9=>bif(!v9) then((t0 K a0 v6).bind fun v12=>(t0 K a1 v6).bind fun v14=>(oC v12.1 v14.1).bind fun v16=>some v16) else((oC a0 a1).bind fun v18=>some v18)))
theorem uW {K:Nat} {a0:aM} {a1:aM} {r:bX} (hF:kG K a0 a1=some r):Ct Tryz.prog 96 [.va (aM.e a0),.va (aM.e a1)] (.va (bX.e r)):=by
 unfold kG at hF
 refine aJ Tryz.func96 rfl (by kernel_rfl) Tryz.ntmps96 rfl (fun w0 M0=>?_)
 refine aO (aT (cB rfl rfl trivial (fun b1=>?_)))
 refine cB rfl rfl trivial (fun b2=>?_)
 refine aS rfl tyZ44 (fun b3=>?_)
 refine go ?_ ?_
 refine cU hF (fun h4 hF=>?_) (fun h4 hF=>?_)
 ·refine go ?_ ?_
  refine gH rfl ?_
  refine aO (aT (aU (cA (is:=[]) (xs:=[]) (ps:=[]) rfl tyB44 rfl rfl trivial rfl) trivial ?_))
  exact bN
 refine go ?_ ?_
 refine aK hF rfl (fun h5 hF=>?_) (fun h5 hF=>?_)
 ·refine aO (aT (aU (cA (is:=[]) (xs:=[]) (ps:=[]) rfl tyB44 rfl rfl trivial rfl) trivial ?_))
  exact bN
 obtain⟨v6,h7,hF⟩:=aZ hF aBA
 refine go ?_ ?_
 refine aS rfl tyZ42 (fun b8=>?_)
 obtain⟨v9,h10,hF⟩:=aZ hF xY
 refine go ?_ ?_
 refine aK hF rfl (fun h11 hF=>?_) (fun h11 hF=>?_)
 ·obtain⟨v12,h13,hF⟩:=aZ hF aBq
  obtain⟨v14,h15,hF⟩:=aZ hF aBq
  obtain⟨v16,h17,hF⟩:=aZ hF vN
  exact bN
 obtain⟨v18,h19,hF⟩:=aZ hF vN
 exact bN
def aBP:Option aM:=
 (mG 1).bind fun v2=>some v2
theorem aJw {r:aM} (hF:aBP=some r):Ct Tryz.prog 185 [] (.va (aM.e r)):=by
 unfold aBP at hF
 refine aJ Tryz.func185 rfl (by kernel_rfl) Tryz.ntmps185 rfl (fun w0 M0=>?_)
 refine aO (aT (aS rfl tyZ42 (fun b1=>?_)))
 obtain⟨v2,h3,hF⟩:=aZ hF sO
 exact bN
def fF (a0:bX):Option aM:=
 bif((a0.q.d.length:Int)==0) then((aBP).bind fun v4=>some v4) else(some a0.q)
theorem lN {a0:bX} {r:aM} (hF:fF a0=some r):Ct Tryz.prog 97 [.va (bX.e a0)] (.va (aM.e r)):=by
 unfold fF at hF
 refine aJ Tryz.func97 rfl (by kernel_rfl) Tryz.ntmps97 rfl (fun w0 M0=>?_)
 refine aO (aT (cB rfl rfl trivial (fun b1=>?_)))
 refine aS rfl tyZ42 (fun b2=>?_)
 refine go ?_ ?_
 refine aK hF rfl (fun h3 hF=>?_) (fun h3 hF=>?_)
 ·obtain⟨v4,h5,hF⟩:=aZ hF aJw
  exact bN
 exact bN
abbrev aLh:Nat:=31
def aAs (K:Nat) (a0:bX) (a1:bX):Option bX:=
 bif((a0.p.d.length:Int)==0) then(some (⟨(⟨false,([]:List Int)⟩:aM),(⟨false,([]:List Int)⟩:aM)⟩:bX)) else(bif((a1.p.d.length:Int)==0) then(some (⟨(⟨false,([]:List Int)⟩:aM),(⟨false,([]:List Int)⟩:aM)⟩:bX)) else(bif((a0.q.d.length:Int)==0) then(bif((a1.q.d.length:Int)==0) then((cN K a0.p a1.p).bind fun v8=>some (⟨v8,(⟨false,([]:List Int)⟩:aM)⟩:bX)) else((fF a1).bind fun v12=>(kG K a0.p v12).bind fun v14=>(fF a0).bind fun v16=>(kG K a1.p v16).bind fun v18=>(cN K v14.p v18.p).bind fun v22=>(fF v14).bind fun v24=>(fF v18).bind fun v26=>(cN K v24 v26).bind fun v28=>(oC v22 v28).bind fun v30=>some v30)) else((fF a1).bind fun v34=>(kG K a0.p v34).bind fun v36=>(fF a0).bind fun v38=>(kG K a1.p v38).bind fun v40=>(cN K v36.p v40.p).bind fun v44=>(fF v36).bind fun v46=>(fF v40).bind fun v48=>(cN K v46 v48).bind fun v50=>(oC v44 v50).bind fun v52=>some v52)))
theorem aEu {K:Nat} {a0:bX} {a1:bX} {r:bX} (hF:aAs K a0 a1=some r):Ct Tryz.prog 31 [.va (bX.e a0),.va (bX.e a1)] (.va (bX.e r)):=by
 unfold aAs at hF
 refine aJ Tryz.func31 rfl (by kernel_rfl) Tryz.ntmps31 rfl (fun w0 M0=>?_)
 refine aO (aT (cB rfl rfl trivial (fun b1=>?_)))
 refine cB rfl rfl trivial (fun b2=>?_)
 refine aS rfl tyZ44 (fun b3=>?_)
 refine go ?_ ?_
 refine cU hF (fun h4 hF=>?_) (fun h4 hF=>?_)
 ·refine go ?_ ?_
  refine gH rfl ?_
  refine aO (aT (aU (cA (is:=[]) (xs:=[]) (ps:=[]) rfl tyB44 rfl rfl trivial rfl) trivial ?_))
  exact bN
 refine go ?_ ?_
 refine aK hF rfl (fun h5 hF=>?_) (fun h5 hF=>?_)
 ·refine aO (aT (aU (cA (is:=[]) (xs:=[]) (ps:=[]) rfl tyB44 rfl rfl trivial rfl) trivial ?_))
  exact bN
 refine go ?_ ?_
 refine cU hF (fun h6 hF=>?_) (fun h6 hF=>?_)
 ·refine go ?_ ?_
  refine aK hF rfl (fun h7 hF=>?_) (fun h7 hF=>?_)
  ·obtain⟨v8,h9,hF⟩:=aZ hF iK
   refine go ?_ ?_
   refine aU (cA (is:=[0]) (xs:=[.tmp 36]) (ps:=[.va (aM.e v8)]) rfl tyB44 rfl rfl ⟨trivial,trivial⟩ rfl) zU1 ?_
   exact bN
  obtain⟨v12,h13,hF⟩:=aZ hF lN
  obtain⟨v14,h15,hF⟩:=aZ hF uW
  obtain⟨v16,h17,hF⟩:=aZ hF lN
  obtain⟨v18,h19,hF⟩:=aZ hF uW
  refine go ?_ ?_
  refine dr [0,1,0,4,15,0,32,0,159,511,0,0,4095,8191] 12 2 ?_ (fun bs11 G10=>?_)
  obtain⟨v22,h23,hF⟩:=aZ hF iK
  obtain⟨v24,h25,hF⟩:=aZ hF lN
  obtain⟨v26,h27,hF⟩:=aZ hF lN
  obtain⟨v28,h29,hF⟩:=aZ hF iK
  obtain⟨v30,h31,hF⟩:=aZ hF vN
  refine go ?_ ?_
  refine dr [0,1,0,4,15,0,63,0,255,511,1023,2047] 11 1 ?_ (fun bs21 G20=>?_)
  exact bN
 refine go ?_ ?_
 refine tW rfl ?_
 obtain⟨v34,h35,hF⟩:=aZ hF lN
 obtain⟨v36,h37,hF⟩:=aZ hF uW
 obtain⟨v38,h39,hF⟩:=aZ hF lN
 obtain⟨v40,h41,hF⟩:=aZ hF uW
 refine go ?_ ?_
 refine dr [0,1,0,4,15,0,32,0,159,511,0,0,4095,8191] 12 2 ?_ (fun bs33 G32=>?_)
 obtain⟨v44,h45,hF⟩:=aZ hF iK
 obtain⟨v46,h47,hF⟩:=aZ hF lN
 obtain⟨v48,h49,hF⟩:=aZ hF lN
 obtain⟨v50,h51,hF⟩:=aZ hF iK
 obtain⟨v52,h53,hF⟩:=aZ hF vN
 refine go ?_ ?_
 refine dr [0,1,0,4,15,0,63,0,255,511,1023,2047] 11 1 ?_ (fun bs43 G42=>?_)
 exact bN
def t7 (K:Nat):Option Bool:=
 some true
def iB (K:Nat) (a0:List Int) (a1:List Int):Nat→Int→Option (LR Bool Unit)
 |0,_=>none
 |k+1,x3=>bif(decide (x3<(a0.length:Int))) then((bU a0 x3).bind fun v9=>(bU a1 x3).bind fun v11=>bif(v9 != v11) then(some (.ret false)) else((aY (x3+1)).bind fun v14=>iB K a0 a1 k v14)) else(some (.go ()))
def qW (K:Nat) (a0:List Int) (a1:List Int):Option Bool:=
 bif((a0.length:Int) != (a1.length:Int)) then(some false) else((iB K a0 a1 K 0).bind fun o=>match o with| .ret r=>some r| .go _=>t7 K)
theorem aBV {K:Nat} {a0:List Int} {a1:List Int} {r:Bool} (hF:qW K a0 a1=some r):Ct Tryz.prog 100 [.vc (pS cI a0),.vc (pS cI a1)] (.vc (pB r)):=by
 unfold qW at hF
 refine aJ Tryz.func100 rfl (by kernel_rfl) Tryz.ntmps100 rfl (fun w0 M0=>?_)
 refine go ?_ ?_
 refine aK hF rfl (fun h1 hF=>?_) (fun h1 hF=>?_)
 ·exact bN
 refine go ?_ ?_
 refine aP (bH (fun H E=>t7 K=some r∧H=[]∧E=[]) ?_ (fun Jj5=>?_))
 ·rintro _ _ ⟨hF,rfl,rfl⟩
  unfold t7 at hF
  exact bN
 obtain⟨ol4,hL,hRl4⟩:=aV hF
 refine eM (fun k a w=>∃(x3:Int),iB K a0 a1 k x3=some ol4∧hs _ [] [(0,.vc (pS cI a0)),(1,.vc (pS cI a1)),(12,.vc (pI .i64 (a0.length:Int))),(13,.vc (pI .i64 x3))] a w) K (fun a w ⟨_,hF,_⟩=>by cases hF) (fun k a w ⟨x3,hF,hh⟩=>eK ?_ hh) (fun a w hh=>⟨0,hL,dS [] hh⟩)
 rw [iB.eq_2] at hF
 refine go ?_ ?_
 refine aK hF rfl (fun h6 hF=>?_) (fun h6 hF=>?_)
 ·refine go ?_ ?_
  refine aP ?_
  obtain⟨v9,h10,v11,h12,hF⟩:=vB hF
  refine go ?_ ?_
  refine dr [0,0,3,7,0,0,48,112,255] 9 0 ?_ (fun bs8 G7=>?_)
  refine bC (aQ (aK hF rfl (fun h13 hF=>?_) (fun h13 hF=>?_)))
  ·exact bN
  obtain⟨v14,h15,hF⟩:=aV hF
  refine go ?_ ?_
  exact aN (fun a w hh=>⟨v14,hF,dS [] hh⟩)
 refine bY ?_
 obtain rfl:=l7 hF
 exact m5 Jj5 ⟨hRl4,rfl,rfl⟩ []
def uZ (K:Nat) (a0:aM) (a1:aM):Option Bool:=
 bif(a0.neg==a1.neg) then((qW K a0.d a1.d).bind fun v4=>some v4) else(some false)
theorem aB7 {K:Nat} {a0:aM} {a1:aM} {r:Bool} (hF:uZ K a0 a1=some r):Ct Tryz.prog 99 [.va (aM.e a0),.va (aM.e a1)] (.vc (pB r)):=by
 unfold uZ at hF
 refine aJ Tryz.func99 rfl (by kernel_rfl) Tryz.ntmps99 rfl (fun w0 M0=>?_)
 refine aO (aT (cB rfl rfl trivial (fun b1=>?_)))
 refine cB rfl rfl trivial (fun b2=>?_)
 refine go ?_ ?_
 refine aU (aMz rfl Tryz.underlying4) zU2 ?_
 refine fY ?_
 refine cU hF (fun h3 hF=>?_) (fun h3 hF=>?_)
 ·obtain⟨v4,h5,hF⟩:=aZ hF aBV
  exact bN
 exact bN
abbrev aJg:Nat:=32
def aAM (K:Nat) (a0:bX) (a1:bX):Option Bool:=
 (uZ K a0.p a1.p).bind fun v3=>bif v3 then((uZ K a0.q a1.q).bind fun v6=>some v6) else(some false)
theorem aIk {K:Nat} {a0:bX} {a1:bX} {r:Bool} (hF:aAM K a0 a1=some r):Ct Tryz.prog 32 [.va (bX.e a0),.va (bX.e a1)] (.vc (pB r)):=by
 unfold aAM at hF
 refine aJ Tryz.func32 rfl (by kernel_rfl) Tryz.ntmps32 rfl (fun w0 M0=>?_)
 refine aO (aT (cB rfl rfl trivial (fun b1=>?_)))
 refine cB rfl rfl trivial (fun b2=>?_)
 refine go ?_ ?_
 refine aU (bA (.inr rfl)) ⟨k_F _,trivial⟩ ?_
 obtain⟨v3,h4,hF⟩:=aZ hF aB7
 refine go ?_ ?_
 refine aU (aHk (cs:=[]) (pre:=[.va (aM.e a0.p),.va (aM.e a1.p)]) rfl h4 rfl) ⟨rfl,rfl,rfl,trivial⟩ ?_
 refine fY ?_
 refine cU hF (fun h5 hF=>?_) (fun h5 hF=>?_)
 ·obtain⟨v6,h7,hF⟩:=aZ hF aB7
  refine go ?_ ?_
  refine aIp (aHk (cs:=[]) (pre:=[.va (aM.e a0.q),.va (aM.e a1.q)]) rfl h7 rfl) ⟨rfl,rfl,rfl,trivial⟩ ?_
  exact bN
 exact bN
abbrev aK3:Nat:=34
def aAt (K:Nat) (a0:bX) (a1:bX):Option bX:=
 bif((a0.q.d.length:Int)==0) then(bif((a1.q.d.length:Int)==0) then((oH K a0.p a1.p).bind fun v6=>some (⟨v6,(⟨false,([]:List Int)⟩:aM)⟩:bX)) else(bif((a0.p.d.length:Int)==0) then(some a1) else(bif((a1.p.d.length:Int)==0) then(some a0) else((fF a0).bind fun v12=>(fF a1).bind fun v14=>(cN K a0.p v14).bind fun v18=>(cN K a1.p v12).bind fun v20=>(oH K v18 v20).bind fun v22=>(cN K v12 v14).bind fun v24=>(kG K v22 v24).bind fun v26=>some v26)))) else(bif((a0.p.d.length:Int)==0) then(some a1) else(bif((a1.p.d.length:Int)==0) then(some a0) else((fF a0).bind fun v32=>(fF a1).bind fun v34=>(cN K a0.p v34).bind fun v38=>(cN K a1.p v32).bind fun v40=>(oH K v38 v40).bind fun v42=>(cN K v32 v34).bind fun v44=>(kG K v42 v44).bind fun v46=>some v46)))
theorem aEW {K:Nat} {a0:bX} {a1:bX} {r:bX} (hF:aAt K a0 a1=some r):Ct Tryz.prog 34 [.va (bX.e a0),.va (bX.e a1)] (.va (bX.e r)):=by
 unfold aAt at hF
 refine aJ Tryz.func34 rfl (by kernel_rfl) Tryz.ntmps34 rfl (fun w0 M0=>?_)
 refine aO (aT (cB rfl rfl trivial (fun b1=>?_)))
 refine cB rfl rfl trivial (fun b2=>?_)
 refine aS rfl tyZ44 (fun b3=>?_)
 refine go ?_ ?_
 refine aP (go ?_ ?_)
 refine cU hF (fun h4 hF=>?_) (fun h4 hF=>?_)
 ·refine go ?_ ?_
  refine aK hF rfl (fun h5 hF=>?_) (fun h5 hF=>?_)
  ·obtain⟨v6,h7,hF⟩:=aZ hF y0
   refine go ?_ ?_
   refine aU (cA (is:=[0]) (xs:=[.tmp 24]) (ps:=[.va (aM.e v6)]) rfl tyB44 rfl rfl ⟨trivial,trivial⟩ rfl) zU1 ?_
   exact bN
  refine go ?_ ?_
  refine aK hF rfl (fun h8 hF=>?_) (fun h8 hF=>?_)
  ·exact bN
  refine go ?_ ?_
  refine aK hF rfl (fun h9 hF=>?_) (fun h9 hF=>?_)
  ·exact bN
  obtain⟨v12,h13,hF⟩:=aZ hF lN
  obtain⟨v14,h15,hF⟩:=aZ hF lN
  refine go ?_ ?_
  refine dr [0,1,0,7,0,0,63,127] 6 2 ?_ (fun bs11 G10=>?_)
  obtain⟨v18,h19,hF⟩:=aZ hF iK
  obtain⟨v20,h21,hF⟩:=aZ hF iK
  obtain⟨v22,h23,hF⟩:=aZ hF y0
  obtain⟨v24,h25,hF⟩:=aZ hF iK
  obtain⟨v26,h27,hF⟩:=aZ hF uW
  refine go ?_ ?_
  refine dr [0,1,0,7,0,16,0,127,255,0,0,2047,4095,8191] 13 1 ?_ (fun bs17 G16=>?_)
  exact bN
 refine go ?_ ?_
 refine tW rfl ?_
 refine go ?_ ?_
 refine aK hF rfl (fun h28 hF=>?_) (fun h28 hF=>?_)
 ·exact bN
 refine go ?_ ?_
 refine aK hF rfl (fun h29 hF=>?_) (fun h29 hF=>?_)
 ·exact bN
 obtain⟨v32,h33,hF⟩:=aZ hF lN
 obtain⟨v34,h35,hF⟩:=aZ hF lN
 refine go ?_ ?_
 refine dr [0,1,0,7,0,0,63,127] 6 2 ?_ (fun bs31 G30=>?_)
 obtain⟨v38,h39,hF⟩:=aZ hF iK
 obtain⟨v40,h41,hF⟩:=aZ hF iK
 obtain⟨v42,h43,hF⟩:=aZ hF y0
 obtain⟨v44,h45,hF⟩:=aZ hF iK
 obtain⟨v46,h47,hF⟩:=aZ hF uW
 refine go ?_ ?_
 refine dr [0,1,0,7,0,16,0,127,255,0,0,2047,4095,8191] 13 1 ?_ (fun bs37 G36=>?_)
 exact bN
abbrev aJi:Nat:=35
def xJ (a0:bX):Option Int:=
 (uS a0.p).bind fun v2=>some v2
theorem aBn {a0:bX} {r:Int} (hF:xJ a0=some r):Ct Tryz.prog 35 [.va (bX.e a0)] (.vc (pI .i64 r)):=by
 unfold xJ at hF
 refine aJ Tryz.func35 rfl (by kernel_rfl) Tryz.ntmps35 rfl (fun w0 M0=>?_)
 refine aO (aT (cB rfl rfl trivial (fun b1=>?_)))
 obtain⟨v2,h3,hF⟩:=aZ hF aDY
 exact bN
abbrev aCg:Nat:=55
def tK (K:Nat) (a0:bX) (a1:bX):Option Bool:=
 (nS K a0.p a1.p).bind fun v3=>bif v3 then((nS K a0.q a1.q).bind fun v6=>some v6) else(some false)
theorem aBX {K:Nat} {a0:bX} {a1:bX} {r:Bool} (hF:tK K a0 a1=some r):Ct Tryz.prog 55 [.va (bX.e a0),.va (bX.e a1)] (.vc (pB r)):=by
 unfold tK at hF
 refine aJ Tryz.func55 rfl (by kernel_rfl) Tryz.ntmps55 rfl (fun w0 M0=>?_)
 refine aO (aT (cB rfl rfl trivial (fun b1=>?_)))
 refine cB rfl rfl trivial (fun b2=>?_)
 obtain⟨v3,h4,hF⟩:=aZ hF yM
 refine go ?_ ?_
 refine cU hF (fun h5 hF=>?_) (fun h5 hF=>?_)
 ·obtain⟨v6,h7,hF⟩:=aZ hF yM
  exact bN
 exact bN
abbrev aLb:Nat:=65
def aBK (K:Nat) (a0:bX) (a1:bX):Option bX:=
 bif((a1.p.d.length:Int)==0) then(some (⟨(⟨false,([]:List Int)⟩:aM),(⟨false,([]:List Int)⟩:aM)⟩:bX)) else((fF a1).bind fun v7=>(oC v7 a1.p).bind fun v9=>(aAs K a0 v9).bind fun v11=>some v11)
theorem aJa {K:Nat} {a0:bX} {a1:bX} {r:bX} (hF:aBK K a0 a1=some r):Ct Tryz.prog 65 [.va (bX.e a0),.va (bX.e a1)] (.va (bX.e r)):=by
 unfold aBK at hF
 refine aJ Tryz.func65 rfl (by kernel_rfl) Tryz.ntmps65 rfl (fun w0 M0=>?_)
 refine aO (aT (cB rfl rfl trivial (fun b1=>?_)))
 refine cB rfl rfl trivial (fun b2=>?_)
 refine aS rfl tyZ44 (fun b3=>?_)
 refine go ?_ ?_
 refine aK hF rfl (fun h4 hF=>?_) (fun h4 hF=>?_)
 ·refine aO (aT (aU (cA (is:=[]) (xs:=[]) (ps:=[]) rfl tyB44 rfl rfl trivial rfl) trivial ?_))
  exact bN
 obtain⟨v7,h8,hF⟩:=aZ hF lN
 obtain⟨v9,h10,hF⟩:=aZ hF vN
 obtain⟨v11,h12,hF⟩:=aZ hF aEu
 refine go ?_ ?_
 refine dr [0,0,2,0,8,30,63,127] 7 1 ?_ (fun bs6 G5=>?_)
 exact bN
abbrev aCs:Nat:=68
def tT (K:Nat) (a0:bX):Option Int:=
 (qZ K a0.p).bind fun v2=>some v2
theorem aB1 {K:Nat} {a0:bX} {r:Int} (hF:tT K a0=some r):Ct Tryz.prog 68 [.va (bX.e a0)] (.vc (pI .i64 r)):=by
 unfold tT at hF
 refine aJ Tryz.func68 rfl (by kernel_rfl) Tryz.ntmps68 rfl (fun w0 M0=>?_)
 refine aO (aT (cB rfl rfl trivial (fun b1=>?_)))
 obtain⟨v2,h3,hF⟩:=aZ hF aBU
 exact bN
abbrev aK6:Nat:=132
def aAn (a0:bX):Option bX:=
 (sM a0.p).bind fun v5=>some (⟨v5,a0.q⟩:bX)
theorem aEX {a0:bX} {r:bX} (hF:aAn a0=some r):Ct Tryz.prog 132 [.va (bX.e a0)] (.va (bX.e r)):=by
 unfold aAn at hF
 refine aJ Tryz.func132 rfl (by kernel_rfl) Tryz.ntmps132 rfl (fun w0 M0=>?_)
 refine aO (aT (cB rfl rfl trivial (fun b1=>?_)))
 refine aS rfl tyZ44 (fun b2=>?_)
 obtain⟨v5,h6,hF⟩:=aZ hF y9
 refine go ?_ ?_
 refine hY [0,1,3,0,8,31,63] 6 1 [.v (.vc (pP (some b1) 0)),.v (.va (aM.e a0.p)),.v (.va (aM.e v5)),.v (.vc (pP (some b1) 2)),.v (.va (aM.e a0.q)),.v (.va ((aM.e v5)++(aM.e a0.q)))] a9 ⟨d0 (kQ (off:=0) (k:=0) rfl tyF44_0) zU1,d0 (eW 1 2 rfl rfl rfl rfl (.agg tyA42)) zU1,d0 (bF rfl h6 rfl) zU1,d0 (kQ (off:=0) (k:=2) rfl tyF44_1) zU1,d0 (eW 1 2 rfl rfl rfl rfl (.agg tyA42)) zU1,d0 (cA (is:=[0,1]) (xs:=[.tmp 5,.tmp 7]) (ps:=[.va (aM.e v5),.va (aM.e a0.q)]) rfl tyB44 rfl rfl ⟨trivial,trivial,trivial⟩ rfl) zU2,trivial⟩ (fun bs4 G3=>?_)
 exact bN
abbrev aKY:Nat:=73
def aBJ (K:Nat) (a0:bX) (a1:bX):Option bX:=
 (aAn a1).bind fun v6=>(aAt K a0 v6).bind fun v8=>some v8
theorem aI9 {K:Nat} {a0:bX} {a1:bX} {r:bX} (hF:aBJ K a0 a1=some r):Ct Tryz.prog 73 [.va (bX.e a0),.va (bX.e a1)] (.va (bX.e r)):=by
 unfold aBJ at hF
 refine aJ Tryz.func73 rfl (by kernel_rfl) Tryz.ntmps73 rfl (fun w0 M0=>?_)
 refine aO (aT (cB rfl rfl trivial (fun b1=>?_)))
 refine cB rfl rfl trivial (fun b2=>?_)
 refine aS rfl tyZ44 (fun b3=>?_)
 obtain⟨v6,h7,hF⟩:=aZ hF aEX
 obtain⟨v8,h9,hF⟩:=aZ hF aEW
 refine go ?_ ?_
 refine dr [0,0,2,7,15] 4 1 ?_ (fun bs5 G4=>?_)
 exact bN
abbrev aIW:Nat:=78
def zU (K:Nat) (a0:bX):Option Bool:=
 (pQ K a0.p).bind fun v2=>bif(!v2) then(some false) else((pQ K a0.q).bind fun v5=>bif(!v5) then(some false) else(bif a0.q.neg then(some false) else((tJ a0.q).bind fun v9=>bif v9 then(some false) else(bif((a0.q.d.length:Int)==0) then(some true) else((tZ K a0.p a0.q).bind fun v13=>(tJ v13).bind fun v15=>some v15)))))
theorem aG9 {K:Nat} {a0:bX} {r:Bool} (hF:zU K a0=some r):Ct Tryz.prog 78 [.va (bX.e a0)] (.vc (pB r)):=by
 unfold zU at hF
 refine aJ Tryz.func78 rfl (by kernel_rfl) Tryz.ntmps78 rfl (fun w0 M0=>?_)
 refine aO (aT (cB rfl rfl trivial (fun b1=>?_)))
 refine go ?_ ?_
 refine aP ?_
 obtain⟨v2,h3,hF⟩:=aZ hF aAp
 refine go ?_ ?_
 refine cU hF (fun h4 hF=>?_) (fun h4 hF=>?_)
 ·refine go ?_ ?_
  refine gH rfl ?_
  exact bN
 obtain⟨v5,h6,hF⟩:=aZ hF aAp
 refine go ?_ ?_
 refine cU hF (fun h7 hF=>?_) (fun h7 hF=>?_)
 ·refine go ?_ ?_
  refine gH rfl ?_
  exact bN
 refine go ?_ ?_
 refine cU hF (fun h8 hF=>?_) (fun h8 hF=>?_)
 ·refine go ?_ ?_
  refine gH rfl ?_
  exact bN
 obtain⟨v9,h10,hF⟩:=aZ hF xY
 refine go ?_ ?_
 refine aK hF rfl (fun h11 hF=>?_) (fun h11 hF=>?_)
 ·exact bN
 refine go ?_ ?_
 refine aK hF rfl (fun h12 hF=>?_) (fun h12 hF=>?_)
 ·exact bN
 obtain⟨v13,h14,hF⟩:=aZ hF aBA
 obtain⟨v15,h16,hF⟩:=aZ hF xY
 exact bN
abbrev aBR:Nat:=83
def sS (K:Nat) (a0:bX):Option Bool:=
 (k5 K a0.p).bind fun v2=>bif(!v2) then(some false) else((k5 K a0.q).bind fun v5=>bif(!v5) then(some false) else(bif a0.q.neg then(some false) else((lE a0.q).bind fun v9=>bif v9 then(some false) else(bif((a0.q.d.length:Int)==0) then(some true) else((oX K a0.p a0.q).bind fun v13=>(lE v13).bind fun v15=>some v15)))))
theorem aBt {K:Nat} {a0:bX} {r:Bool} (hF:sS K a0=some r):Ct Tryz.prog 83 [.va (bX.e a0)] (.vc (pB r)):=by
 unfold sS at hF
 refine aJ Tryz.func83 rfl (by kernel_rfl) Tryz.ntmps83 rfl (fun w0 M0=>?_)
 refine aO (aT (cB rfl rfl trivial (fun b1=>?_)))
 obtain⟨v2,h3,hF⟩:=aZ hF xX
 refine go ?_ ?_
 refine cU hF (fun h4 hF=>?_) (fun h4 hF=>?_)
 ·refine go ?_ ?_
  refine gH rfl ?_
  exact bN
 obtain⟨v5,h6,hF⟩:=aZ hF xX
 refine go ?_ ?_
 refine cU hF (fun h7 hF=>?_) (fun h7 hF=>?_)
 ·refine go ?_ ?_
  refine gH rfl ?_
  exact bN
 refine go ?_ ?_
 refine cU hF (fun h8 hF=>?_) (fun h8 hF=>?_)
 ·refine go ?_ ?_
  refine gH rfl ?_
  exact bN
 obtain⟨v9,h10,hF⟩:=aZ hF tP
 refine go ?_ ?_
 refine aK hF rfl (fun h11 hF=>?_) (fun h11 hF=>?_)
 ·exact bN
 refine go ?_ ?_
 refine aK hF rfl (fun h12 hF=>?_) (fun h12 hF=>?_)
 ·exact bN
 obtain⟨v13,h14,hF⟩:=aZ hF yU
 obtain⟨v15,h16,hF⟩:=aZ hF tP
 exact bN
def dU (K:Nat) (a0:bX):Option aM:=
 bif((a0.q.d.length:Int)==0) then((iI K 1).bind fun v4=>some v4) else(some a0.q)
theorem gQ {K:Nat} {a0:bX} {r:aM} (hF:dU K a0=some r):Ct Tryz.prog 176 [.va (bX.e a0)] (.va (aM.e r)):=by
 unfold dU at hF
 refine aJ Tryz.func176 rfl (by kernel_rfl) Tryz.ntmps176 rfl (fun w0 M0=>?_)
 refine aO (aT (cB rfl rfl trivial (fun b1=>?_)))
 refine aS rfl tyZ42 (fun b2=>?_)
 refine go ?_ ?_
 refine aK hF rfl (fun h3 hF=>?_) (fun h3 hF=>?_)
 ·obtain⟨v4,h5,hF⟩:=aZ hF l9
  exact bN
 exact bN
abbrev aC4:Nat:=86
def uG (K:Nat) (a0:bX) (a1:bX):Option bX:=
 (dV K a0.p a1.p).bind fun v6=>(dU K a0).bind fun v8=>(dU K a1).bind fun v10=>(dV K v8 v10).bind fun v12=>(gV K v6 v12).bind fun v14=>some v14
theorem aCh {K:Nat} {a0:bX} {a1:bX} {r:bX} (hF:uG K a0 a1=some r):Ct Tryz.prog 86 [.va (bX.e a0),.va (bX.e a1)] (.va (bX.e r)):=by
 unfold uG at hF
 refine aJ Tryz.func86 rfl (by kernel_rfl) Tryz.ntmps86 rfl (fun w0 M0=>?_)
 refine aO (aT (cB rfl rfl trivial (fun b1=>?_)))
 refine cB rfl rfl trivial (fun b2=>?_)
 refine aS rfl tyZ44 (fun b3=>?_)
 obtain⟨v6,h7,hF⟩:=aZ hF gU
 obtain⟨v8,h9,hF⟩:=aZ hF gQ
 obtain⟨v10,h11,hF⟩:=aZ hF gQ
 obtain⟨v12,h13,hF⟩:=aZ hF gU
 obtain⟨v14,h15,hF⟩:=aZ hF sV
 refine go ?_ ?_
 refine dr [0,1,0,4,15,0,63,0,255,511,1023,2047] 11 1 ?_ (fun bs5 G4=>?_)
 exact bN
abbrev aCI:Nat:=87
def rY (K:Nat) (a0:bX) (a1:bX):Option bX:=
 (dU K a1).bind fun v6=>(dV K a0.p v6).bind fun v8=>(dU K a0).bind fun v12=>(dV K a1.p v12).bind fun v14=>(oW K v8 v14).bind fun v18=>(dU K a0).bind fun v20=>(dU K a1).bind fun v22=>(dV K v20 v22).bind fun v24=>(gV K v18 v24).bind fun v26=>some v26
theorem y7 {K:Nat} {a0:bX} {a1:bX} {r:bX} (hF:rY K a0 a1=some r):Ct Tryz.prog 87 [.va (bX.e a0),.va (bX.e a1)] (.va (bX.e r)):=by
 unfold rY at hF
 refine aJ Tryz.func87 rfl (by kernel_rfl) Tryz.ntmps87 rfl (fun w0 M0=>?_)
 refine aO (aT (cB rfl rfl trivial (fun b1=>?_)))
 refine cB rfl rfl trivial (fun b2=>?_)
 refine aS rfl tyZ44 (fun b3=>?_)
 obtain⟨v6,h7,hF⟩:=aZ hF gQ
 obtain⟨v8,h9,hF⟩:=aZ hF gU
 refine go ?_ ?_
 refine dr [0,1,0,4,15,0,63] 6 1 ?_ (fun bs5 G4=>?_)
 obtain⟨v12,h13,hF⟩:=aZ hF gQ
 obtain⟨v14,h15,hF⟩:=aZ hF gU
 refine go ?_ ?_
 refine dr [0,1,0,4,15,0,63] 6 1 ?_ (fun bs11 G10=>?_)
 obtain⟨v18,h19,hF⟩:=aZ hF zD
 obtain⟨v20,h21,hF⟩:=aZ hF gQ
 obtain⟨v22,h23,hF⟩:=aZ hF gQ
 obtain⟨v24,h25,hF⟩:=aZ hF gU
 obtain⟨v26,h27,hF⟩:=aZ hF sV
 refine go ?_ ?_
 refine dr [0,0,3,0,15,0,63,127,255,511] 9 1 ?_ (fun bs17 G16=>?_)
 exact bN
abbrev aDb:Nat:=172
def sF (K:Nat) (a0:bX):Option bX:=
 (mI K a0.p).bind fun v5=>some (⟨v5,a0.q⟩:bX)
theorem zH {K:Nat} {a0:bX} {r:bX} (hF:sF K a0=some r):Ct Tryz.prog 172 [.va (bX.e a0)] (.va (bX.e r)):=by
 unfold sF at hF
 refine aJ Tryz.func172 rfl (by kernel_rfl) Tryz.ntmps172 rfl (fun w0 M0=>?_)
 refine aO (aT (cB rfl rfl trivial (fun b1=>?_)))
 refine aS rfl tyZ44 (fun b2=>?_)
 obtain⟨v5,h6,hF⟩:=aZ hF wF
 refine go ?_ ?_
 refine hY [0,1,3,0,8,31,63] 6 1 [.v (.vc (pP (some b1) 0)),.v (.va (aM.e a0.p)),.v (.va (aM.e v5)),.v (.vc (pP (some b1) 2)),.v (.va (aM.e a0.q)),.v (.va ((aM.e v5)++(aM.e a0.q)))] a9 ⟨d0 (kQ (off:=0) (k:=0) rfl tyF44_0) zU1,d0 (eW 1 2 rfl rfl rfl rfl (.agg tyA42)) zU1,d0 (bF rfl h6 rfl) zU1,d0 (kQ (off:=0) (k:=2) rfl tyF44_1) zU1,d0 (eW 1 2 rfl rfl rfl rfl (.agg tyA42)) zU1,d0 (cA (is:=[0,1]) (xs:=[.tmp 5,.tmp 7]) (ps:=[.va (aM.e v5),.va (aM.e a0.q)]) rfl tyB44 rfl rfl ⟨trivial,trivial,trivial⟩ rfl) zU2,trivial⟩ (fun bs4 G3=>?_)
 exact bN
abbrev aCZ:Nat:=105
def uE (K:Nat) (a0:bX) (a1:bX):Option bX:=
 (sF K a1).bind fun v6=>(rY K a0 v6).bind fun v8=>some v8
theorem aCr {K:Nat} {a0:bX} {a1:bX} {r:bX} (hF:uE K a0 a1=some r):Ct Tryz.prog 105 [.va (bX.e a0),.va (bX.e a1)] (.va (bX.e r)):=by
 unfold uE at hF
 refine aJ Tryz.func105 rfl (by kernel_rfl) Tryz.ntmps105 rfl (fun w0 M0=>?_)
 refine aO (aT (cB rfl rfl trivial (fun b1=>?_)))
 refine cB rfl rfl trivial (fun b2=>?_)
 refine aS rfl tyZ44 (fun b3=>?_)
 obtain⟨v6,h7,hF⟩:=aZ hF zH
 obtain⟨v8,h9,hF⟩:=aZ hF y7
 refine go ?_ ?_
 refine dr [0,0,2,7,15] 4 1 ?_ (fun bs5 G4=>?_)
 exact bN
abbrev aLW:Nat:=112
def aCD (K:Nat) (a0:Int) (a1:Int):Option bX:=
 (mG a0).bind fun v2=>(mG a1).bind fun v4=>(kG K v2 v4).bind fun v6=>some v6
theorem aLp {K:Nat} {a0:Int} {a1:Int} {r:bX} (hF:aCD K a0 a1=some r):Ct Tryz.prog 112 [.vc (pI .i64 a0),.vc (pI .i64 a1)] (.va (bX.e r)):=by
 unfold aCD at hF
 refine aJ Tryz.func112 rfl (by kernel_rfl) Tryz.ntmps112 rfl (fun w0 M0=>?_)
 refine aO (aT (aS rfl tyZ44 (fun b1=>?_)))
 obtain⟨v2,h3,hF⟩:=aZ hF sO
 obtain⟨v4,h5,hF⟩:=aZ hF sO
 obtain⟨v6,h7,hF⟩:=aZ hF uW
 exact bN
abbrev aFK:Nat:=144
def xQ (K:Nat) (a0:bX) (a1:bX):Option Int:=
 (xJ a0).bind fun v5=>(xJ a1).bind fun v7=>bif(v5 != v7) then((mG v5).bind fun v10=>(mG v7).bind fun v12=>(mK K v10 v12).bind fun v14=>some v14) else(bif(v5==0) then((mG v5).bind fun v17=>(mG v7).bind fun v19=>(mK K v17 v19).bind fun v21=>some v21) else((fF a1).bind fun v25=>(cN K a0.p v25).bind fun v27=>(fF a0).bind fun v29=>(cN K a1.p v29).bind fun v31=>(mK K v27 v31).bind fun v33=>some v33))
theorem aE0 {K:Nat} {a0:bX} {a1:bX} {r:Int} (hF:xQ K a0 a1=some r):Ct Tryz.prog 144 [.va (bX.e a0),.va (bX.e a1)] (.vc (pI .i64 r)):=by
 unfold xQ at hF
 refine aJ Tryz.func144 rfl (by kernel_rfl) Tryz.ntmps144 rfl (fun w0 M0=>?_)
 refine aO (aT (cB rfl rfl trivial (fun b1=>?_)))
 refine cB rfl rfl trivial (fun b2=>?_)
 obtain⟨v5,h6,hF⟩:=aZ hF aBn
 obtain⟨v7,h8,hF⟩:=aZ hF aBn
 refine go ?_ ?_
 refine dr [0,1,0,7,15,31] 6 0 ?_ (fun bs4 G3=>?_)
 refine go ?_ ?_
 refine cU hF (fun h9 hF=>?_) (fun h9 hF=>?_)
 ·refine go ?_ ?_
  refine gH rfl ?_
  obtain⟨v10,h11,hF⟩:=aZ hF sO
  obtain⟨v12,h13,hF⟩:=aZ hF sO
  obtain⟨v14,h15,hF⟩:=aZ hF wB
  exact bN
 refine go ?_ ?_
 refine aK hF rfl (fun h16 hF=>?_) (fun h16 hF=>?_)
 ·obtain⟨v17,h18,hF⟩:=aZ hF sO
  obtain⟨v19,h20,hF⟩:=aZ hF sO
  obtain⟨v21,h22,hF⟩:=aZ hF wB
  exact bN
 obtain⟨v25,h26,hF⟩:=aZ hF lN
 obtain⟨v27,h28,hF⟩:=aZ hF iK
 obtain⟨v29,h30,hF⟩:=aZ hF lN
 obtain⟨v31,h32,hF⟩:=aZ hF iK
 obtain⟨v33,h34,hF⟩:=aZ hF wB
 refine go ?_ ?_
 refine dr [0,1,0,4,15,0,32,0,159,511,1023,2047] 12 0 ?_ (fun bs24 G23=>?_)
 refine bC (aQ ?_)
 exact bN
abbrev aCO:Nat:=149
def uM (K:Nat) (a0:bX) (a1:bX):Option bX:=
 (dU K a1).bind fun v6=>(dV K a0.p v6).bind fun v8=>(dU K a0).bind fun v10=>(dV K v10 a1.p).bind fun v12=>(gV K v8 v12).bind fun v14=>some v14
theorem aCy {K:Nat} {a0:bX} {a1:bX} {r:bX} (hF:uM K a0 a1=some r):Ct Tryz.prog 149 [.va (bX.e a0),.va (bX.e a1)] (.va (bX.e r)):=by
 unfold uM at hF
 refine aJ Tryz.func149 rfl (by kernel_rfl) Tryz.ntmps149 rfl (fun w0 M0=>?_)
 refine aO (aT (cB rfl rfl trivial (fun b1=>?_)))
 refine cB rfl rfl trivial (fun b2=>?_)
 refine aS rfl tyZ44 (fun b3=>?_)
 obtain⟨v6,h7,hF⟩:=aZ hF gQ
 obtain⟨v8,h9,hF⟩:=aZ hF gU
 obtain⟨v10,h11,hF⟩:=aZ hF gQ
 obtain⟨v12,h13,hF⟩:=aZ hF gU
 obtain⟨v14,h15,hF⟩:=aZ hF sV
 refine go ?_ ?_
 refine dr [0,1,0,4,15,0,63,0,128,511,1023,2047] 11 1 ?_ (fun bs5 G4=>?_)
 exact bN
abbrev aA7:Nat:=173
def rM (K:Nat) (a0:bX) (a1:bX):Option Int:=
 (dU K a1).bind fun v5=>(dV K a0.p v5).bind fun v7=>(dU K a0).bind fun v9=>(dV K a1.p v9).bind fun v11=>(lI K v7 v11).bind fun v13=>some v13
theorem aAK {K:Nat} {a0:bX} {a1:bX} {r:Int} (hF:rM K a0 a1=some r):Ct Tryz.prog 173 [.va (bX.e a0),.va (bX.e a1)] (.vc (pI .i64 r)):=by
 unfold rM at hF
 refine aJ Tryz.func173 rfl (by kernel_rfl) Tryz.ntmps173 rfl (fun w0 M0=>?_)
 refine aO (aT (cB rfl rfl trivial (fun b1=>?_)))
 refine cB rfl rfl trivial (fun b2=>?_)
 obtain⟨v5,h6,hF⟩:=aZ hF gQ
 obtain⟨v7,h8,hF⟩:=aZ hF gU
 obtain⟨v9,h10,hF⟩:=aZ hF gQ
 obtain⟨v11,h12,hF⟩:=aZ hF gU
 obtain⟨v13,h14,hF⟩:=aZ hF wP
 refine go ?_ ?_
 refine dr [0,1,0,4,15,0,32,0,159,511,1023,2047] 12 0 ?_ (fun bs4 G3=>?_)
 refine bC (aQ ?_)
 exact bN
end Go.Proofs.YtcjdedkdoagifaaGreat
set_option linter.unusedVariables false
set_option maxRecDepth 100000
namespace Go.Proofs.YtcjdedkdoagifaaGreat
end Go.Proofs.YtcjdedkdoagifaaGreat
set_option linter.unusedVariables false
namespace Go.Proofs.YtcjdedkdoagifaaGreat
open Rat
theorem Z0:Z 0=(⟨false,[]⟩:aM):=by rw [show(0:Int)=((0:Nat):Int) from rfl,←oI];rfl
theorem aJM {x y:Int} (h:Z x=Z y):x=y:=by
 have h1:decide (x<0)=decide (y<0):=congrArg aM.neg h
 have h2:cK x.natAbs=cK y.natAbs:=congrArg aM.d h
 have h3:(x.natAbs:Int)=y.natAbs:=by rw [←d6,←d6,h2]
 have h4:(x<0)↔(y<0):=by simpa using h1
 omega
theorem aCq {x:Int}:(((Z x).d.length:Int)==0)=decide (x=0):=by
 rw [tF]
 by_cases h:x=0
 ·rw [dT h];subst h;rw [show Int.natAbs 0=0 from rfl,wX];rfl
 ·have:dl x.natAbs≠0:=by rw [Ne,wG];omega
  rw [dF h,qF (by omega)]
theorem dl1:dl 1=1:=by
 unfold dl;rw [aJU (by decide) (by decide)];rfl
theorem aBu (x:Int):tJ (Z x)=some (decide (x=1)):=by
 unfold tJ
 rw [uU]
 by_cases h:x<0
 ·rw [dT h,dF (p:=x=1) (by omega)];simp
 ·rw [dF h]
  simp only [Bool.not_false,cC,Z_d]
  by_cases h1:(cK x.natAbs).length=1
  ·obtain⟨a1,a2⟩:=aBF h1
   have e:=dA (xs:=cK x.natAbs) (i:=0) (by omega)
   rw [a1] at e
   simp only [Int.natCast_zero] at e
   rw [qT (by omega),cC,e,oB]
   by_cases h2:x=1
   ·rw [dT h2,qT (by omega)]
   ·rw [dF h2,qF (by omega)]
  ·rw [qF (by omega),bV,dF]
   intro e;subst e;exact h1 dl1
theorem aDe (x:Int):lE (Z x)=some (decide (x=1)):=by
 unfold lE
 rw [uU]
 by_cases h:x<0
 ·rw [dT h,dF (p:=x=1) (by omega)];rfl
 ·rw [dF h]
  simp only [bV,Z_d]
  by_cases h1:(cK x.natAbs).length=1
  ·obtain⟨a1,a2⟩:=aBF h1
   have e:=dA (xs:=cK x.natAbs) (i:=0) (by omega)
   rw [a1] at e
   simp only [Int.natCast_zero] at e
   rw [nF (by omega),bV,e,oB]
   by_cases h2:x=1
   ·rw [dT h2,qT (by omega)]
   ·rw [dF h2,qF (by omega)]
  ·rw [nT (by omega),cC,dF]
   intro e;subst e;exact h1 dl1
theorem aQg {p q:Int} (hq:0<q) (hg:Int.gcd p q=1):(p/. q).num=p∧(p/. q).den=q.natAbs:=by
 rw [Rat.num_divInt,Rat.den_divInt,Int.gcd_comm,hg,if_neg (by omega),Int.sign_eq_one_of_pos hq]
 simp
theorem aEM {p q:Int} (hq:0<q) (hg:Int.gcd p q=1):Qr (p/. q)=⟨Z p,if q=1 then⟨false,[]⟩ else Z q⟩:=by
 obtain⟨h1,h2⟩:=aQg hq hg
 rw [aCx,h1,h2]
 by_cases h:q=1
 ·rw [if_pos h,if_pos (by omega)]
 ·rw [if_neg h,if_neg (by omega),show(q.natAbs:Int)=q by omega]
theorem aAP {p q:Int} (hq:q≠0) (hg:Int.gcd p q=1):oC (Z p) (Z q)=some (Qr (p/. q)):=by
 unfold oC
 rw [uU]
 by_cases h:q<0
 ·rw [dT h]
  simp only [cC,aKv,oB,aBu]
  rw [←Rat.neg_divInt_neg,aEM (by omega) (by simpa using hg)]
  by_cases h1:-q=1
  ·rw [dT h1,if_pos h1];rfl
  ·rw [dF h1,if_neg h1];rfl
 ·rw [dF h]
  simp only [bV,aBu,oB]
  rw [aEM (by omega) hg]
  by_cases h1:q=1
  ·rw [dT h1,if_pos h1];rfl
  ·rw [dF h1,if_neg h1];rfl
theorem aGp {p q:Int} (hq:q≠0):∃a b:Int,∃g:Nat,Int.gcd p q=g∧0<g∧p=a*g∧q=b*g∧Int.gcd a b=1∧b≠0∧p/(g:Int)=a∧q/(g:Int)=b:=by
 have hg:0<Int.gcd p q:=Int.gcd_pos_of_ne_zero_right p hq
 obtain⟨a,ha⟩:=Int.gcd_dvd_left (a:=p) (b:=q)
 obtain⟨b,hb⟩:=Int.gcd_dvd_right (a:=p) (b:=q)
 have hgz:((Int.gcd p q:Nat):Int)≠0:=by omega
 have q1:p/((Int.gcd p q:Nat):Int)=a:=by
  have:((Int.gcd p q:Nat):Int)*a/((Int.gcd p q:Nat):Int)=a:=Int.mul_ediv_cancel_left _ hgz
  rwa [←ha] at this
 have q2:q/((Int.gcd p q:Nat):Int)=b:=by
  have:((Int.gcd p q:Nat):Int)*b/((Int.gcd p q:Nat):Int)=b:=Int.mul_ediv_cancel_left _ hgz
  rwa [←hb] at this
 refine⟨a,b,Int.gcd p q,rfl,hg,by rw [Int.mul_comm];exact ha,by rw [Int.mul_comm];exact hb,?_,?_,q1,q2⟩
 ·have h:=Int.gcd_mul_left (Int.gcd p q) a b
  rw [←ha,←hb] at h
  simp only [Int.natAbs_natCast] at h
  have:Int.gcd p q*1=Int.gcd p q*Int.gcd a b:=by omega
  exact(Nat.eq_of_mul_eq_mul_left hg this).symm
 ·intro e;rw [e] at hb;simp at hb;exact hq hb
theorem aAW:Qr 0=⟨⟨false,[]⟩,⟨false,[]⟩⟩:=Qr0
theorem aMg {p q:Int} (hq:q≠0):dl (Int.gcd p q)≤dl q.natAbs:=sD (Nat.le_of_dvd (by omega) (Nat.gcd_dvd_right _ _))
theorem aDi {p q:Int} (hq:q≠0) (hp1:dl p.natAbs≤20000000000) (hq1:dl q.natAbs≤20000000000):Ev (fun K=>kG K (Z p) (Z q)) (Qr (p/. q)):=by
 unfold kG
 simp only [aCq,dF hq,bV]
 by_cases hp:p=0
 ·subst hp
  simp only [Rat.zero_divInt,aAW]
  exact Ev.pure _
 ·simp only [dF hp,bV]
  obtain⟨a,b,g,h1,h2,h3,h4,h5,h6,h7,h8⟩:=aGp (p:=p) hq
  have hgl:=aMg (p:=p) hq
  rw [h1] at hgl
  refine Ev.bind (aJK (by omega) (by omega)) ?_
  rw [h1]
  simp only [aBu,oB]
  have he:p/. q=a/. b:=by
   rw [h3,h4]
   exact Rat.divInt_mul_right (by omega)
  by_cases hg:g=1
  ·have e:(!decide ((g:Int)=1))=false:=by rw [dT (by omega)];rfl
   simp only [e,bV]
   rw [aAP hq (by rw [h1];exact hg)]
   exact Ev.pure _
  ·have e:(!decide ((g:Int)=1))=true:=by rw [dF (by omega)];rfl
   simp only [e,cC]
   refine Ev.bind (aKd (by omega) (by omega) (by simp;omega)) (Ev.bind (aKd (by omega) (by omega) (by simp;omega)) ?_)
   simp only [h7,h8]
   rw [aAP h6 h5,he]
   exact Ev.pure _
theorem aLA (p:Int):Ev (fun K=>kG K (Z p) (Z 0)) (Qr 0):=by
 unfold kG
 simp only [aCq,aAW]
 exact Ev.pure _
theorem aBM {p q:Int} (hq:q≠0) (hp1:dl p.natAbs≤20000000000) (hq1:dl q.natAbs≤20000000000):Ev (fun K=>gV K (Z p) (Z q)) (Qr (p/. q)):=by
 unfold gV
 simp only [aCq,dF hq,bV]
 by_cases hp:p=0
 ·subst hp
  simp only [Rat.zero_divInt,aAW]
  exact Ev.pure _
 ·simp only [dF hp,bV]
  obtain⟨a,b,g,h1,h2,h3,h4,h5,h6,h7,h8⟩:=aGp (p:=p) hq
  have hgl:=aMg (p:=p) hq
  rw [h1] at hgl
  have hal:dl a.natAbs≤dl p.natAbs:=sD (by
   rw [h3,Int.natAbs_mul,Int.natAbs_natCast]
   exact Nat.le_mul_of_pos_right _ h2)
  have hbl:dl b.natAbs≤dl q.natAbs:=sD (by
   rw [h4,Int.natAbs_mul,Int.natAbs_natCast]
   exact Nat.le_mul_of_pos_right _ h2)
  refine Ev.bind (aIl (by omega) (by omega)) ?_
  rw [h1]
  have he:p/. q=a/. b:=by
   rw [h3,h4]
   exact Rat.divInt_mul_right (by omega)
  refine Ev.bind (aET (by omega) (by omega) (by simp;omega)) (Ev.bind (aET (by omega) (by omega) (by simp;omega)) ?_)
  simp only [h7,h8,uU]
  rw [he]
  by_cases hb:b<0
  ·simp only [dT hb,cC]
   refine Ev.bind (aEE a (by omega)) (Ev.bind (aEE b (by omega)) ?_)
   simp only [aDe,oB]
   rw [←Rat.neg_divInt_neg,aEM (by omega) (by simpa using h5)]
   by_cases h9:-b=1
   ·simp only [dT h9,if_pos h9,cC];exact Ev.pure _
   ·simp only [dF h9,if_neg h9,bV];exact Ev.pure _
  ·simp only [dF hb,bV,aDe,oB]
   rw [aEM (by omega) h5]
   by_cases h9:b=1
   ·simp only [dT h9,if_pos h9,cC];exact Ev.pure _
   ·simp only [dF h9,if_neg h9,bV];exact Ev.pure _
theorem aFb (p:Int):Ev (fun K=>gV K (Z p) (Z 0)) (Qr 0):=by
 unfold gV
 simp only [aCq,aAW]
 exact Ev.pure _
theorem Qp (a:Rat):(Qr a).p=Z a.num:=by rw [aCx]
theorem Qq (a:Rat):(Qr a).q=if a.den=1 then⟨false,[]⟩ else Z a.den:=by rw [aCx]
theorem aHb (a:Rat):(((Qr a).q.d.length:Int)==0)=decide (a.den=1):=by
 rw [Qq]
 by_cases h:a.den=1
 ·rw [if_pos h,dT h];rfl
 ·rw [if_neg h,dF h,aCq,dF]
  have:=a.den_nz
  omega
theorem aQN {a b:Rat} (h:Qr a=Qr b):a=b:=by
 have h1:Z a.num=Z b.num:=by rw [←Qp,←Qp,h]
 have h2:=congrArg bX.q h
 rw [Qq,Qq] at h2
 have h3:=aJM h1
 have h4:a.den=b.den:=by
  by_cases ha:a.den=1
  ·by_cases hb:b.den=1
   ·omega
   ·rw [if_pos ha,if_neg hb,←Z0] at h2
    have:=aJM h2
    have:=b.den_nz
    omega
  ·by_cases hb:b.den=1
   ·rw [if_neg ha,if_pos hb,←Z0] at h2
    have:=aJM h2
    have:=a.den_nz
    omega
   ·rw [if_neg ha,if_neg hb] at h2
    have:=aJM h2
    omega
 exact Rat.ext h3 h4
theorem aDd (a:Rat):fF (Qr a)=some (Z a.den):=by
 unfold fF aBP
 rw [aHb]
 by_cases h:a.den=1
 ·rw [dT h,cC,aFe (by omega),oB,oB,h];rfl
 ·rw [dF h,bV,Qq,if_neg h]
theorem vP (a:Rat):Ev (fun K=>dU K (Qr a)) (Z a.den):=by
 unfold dU
 rw [aHb]
 by_cases h:a.den=1
 ·simp only [dT h,cC]
  rw [h]
  exact Ev.bind (aAJ (by omega)) (Ev.pure _)
 ·simp only [dF h,bV]
  rw [Qq,if_neg h]
  exact Ev.pure _
theorem uQ {a:Rat} (h:qs a=true):dl a.num.natAbs≤40000000∧dl a.den≤40000000:=by
 unfold qs at h
 simp only [Bool.and_eq_true,Nat.ble_eq] at h
 have h1:=aNz a.num.natAbs
 have h2:=aNz a.den
 omega
theorem aGH (a b:Rat):a+b=(a.num*b.den+b.num*a.den)/. (a.den*b.den):=by
 have ha:=a.den_nz
 have hb:=b.den_nz
 conv=>lhs;rw [←Rat.num_divInt_den a,←Rat.num_divInt_den b]
 exact Rat.divInt_add_divInt _ _ (by omega) (by omega)
theorem aFz (a b:Rat):a*b=(a.num*b.num)/. (a.den*b.den):=by
 conv=>lhs;rw [←Rat.num_divInt_den a,←Rat.num_divInt_den b]
 exact Rat.divInt_mul_divInt _ _
theorem aL0 (n:Int):Qr (n/. 1)=⟨Z n,⟨false,[]⟩⟩:=by
 rw [aEM (by omega) (by simp)];rfl
theorem yS {a b:Rat} (ha:qs a=true) (hb:qs b=true):dl (a.num*b.den).natAbs≤80000000∧dl (b.num*a.den).natAbs≤80000000∧dl (a.num*b.den+b.num*a.den).natAbs≤80000001∧dl ((a.den:Int)*b.den).natAbs≤80000000∧dl (a.num*b.num).natAbs≤80000000∧((a.den:Int)*b.den)≠0:=by
 obtain⟨a1,a2⟩:=uQ ha
 obtain⟨b1,b2⟩:=uQ hb
 have m1:=aDv a.num.natAbs b.den
 have m2:=aDv b.num.natAbs a.den
 have m3:=aDv a.den b.den
 have m4:=aDv a.num.natAbs b.num.natAbs
 have e1:(a.num*b.den).natAbs=a.num.natAbs*b.den:=by rw [Int.natAbs_mul,Int.natAbs_natCast]
 have e2:(b.num*a.den).natAbs=b.num.natAbs*a.den:=by rw [Int.natAbs_mul,Int.natAbs_natCast]
 have e3:((a.den:Int)*b.den).natAbs=a.den*b.den:=by rw [Int.natAbs_mul,Int.natAbs_natCast,Int.natAbs_natCast]
 have e4:(a.num*b.num).natAbs=a.num.natAbs*b.num.natAbs:=Int.natAbs_mul _ _
 have hs:dl (a.num*b.den+b.num*a.den).natAbs≤80000001:=by
  have h1:dl ((a.num*b.den).natAbs+(b.num*a.den).natAbs)≤80000000+1:=aQu (by rw [e1];omega) (by rw [e2];omega)
  exact Nat.le_trans (sD (Int.natAbs_add_le _ _)) h1
 refine⟨by rw [e1];omega,by rw [e2];omega,hs,by rw [e3];omega,by rw [e4];omega,?_⟩
 have h1:=a.den_nz
 have h2:=b.den_nz
 exact Int.mul_ne_zero (by omega) (by omega)
theorem aJ2 {a b:Rat} (ha:qs a=true) (hb:qs b=true):Ev (fun K=>aAt K (Qr a) (Qr b)) (Qr (a+b)):=by
 obtain⟨a1,a2⟩:=uQ ha
 obtain⟨b1,b2⟩:=uQ hb
 obtain⟨c1,c2,c3,c4,c5,c6⟩:=yS ha hb
 have key:Ev (fun K=>(fF (Qr a)).bind fun v12=>(fF (Qr b)).bind fun v14=>(cN K (Z a.num) v14).bind fun v18=>(cN K (Z b.num) v12).bind fun v20=>(oH K v18 v20).bind fun v22=>(cN K v12 v14).bind fun v24=>(kG K v22 v24).bind fun v26=>some v26) (Qr (a+b)):=by
  simp only [aDd,oB]
  refine Ev.bind (zY (by simp;omega)) (Ev.bind (zY (by simp;omega)) (Ev.bind (aJ6 (by omega) (by omega)) (Ev.bind (zY (by simp;omega)) (Ev.bind (aDi c6 (by omega) (by omega)) ?_))))
  rw [←aGH]
  exact Ev.pure _
 have key2:Ev (fun K=>bif decide (a.num=0) then some (Qr b) else bif decide (b.num=0) then some (Qr a) else(fF (Qr a)).bind fun v12=>(fF (Qr b)).bind fun v14=>(cN K (Z a.num) v14).bind fun v18=>(cN K (Z b.num) v12).bind fun v20=>(oH K v18 v20).bind fun v22=>(cN K v12 v14).bind fun v24=>(kG K v22 v24).bind fun v26=>some v26) (Qr (a+b)):=by
  by_cases h1:a.num=0
  ·simp only [dT h1,cC]
   rw [Rat.num_eq_zero.1 h1,Rat.zero_add]
   exact Ev.pure _
  ·simp only [dF h1,bV]
   by_cases h2:b.num=0
   ·simp only [dT h2,cC]
    rw [Rat.num_eq_zero.1 h2,Rat.add_zero]
    exact Ev.pure _
   ·simp only [dF h2,bV]
    exact key
 unfold aAt
 simp only [aHb,Qp,aCq]
 by_cases h1:a.den=1
 ·simp only [dT h1,cC]
  by_cases h2:b.den=1
  ·simp only [dT h2,cC]
   refine Ev.bind (aJ6 (by omega) (by omega)) ?_
   have:a+b=(a.num+b.num)/. 1:=by
    rw [aGH,h1,h2];simp
   rw [this,aL0]
   exact Ev.pure _
  ·simp only [dF h2,bV]
   exact key2
 ·simp only [dF h1,bV]
  exact key2
theorem aHh {n:Int} {d e:Nat} (h:(n/. (d:Int)).den=e) (hd:d≠0):e∣d:=by
 rw [Rat.den_divInt,if_neg (by omega)] at h
 rw [←h]
 simp only [Int.natAbs_natCast]
 exact Nat.div_dvd_of_dvd (by rw [Int.gcd_comm];exact Nat.gcd_dvd_right _ _)
theorem aG5 {n:Int} {d:Nat} (hd:d≠0):(n/. (d:Int)).num.natAbs∣n.natAbs:=by
 rw [Rat.num_divInt,Int.sign_eq_one_of_pos (by omega),Int.one_mul]
 rw [Int.gcd_comm]
 obtain⟨c,hc⟩:=Int.gcd_dvd_left (a:=n) (b:=(d:Int))
 have hg:0<Int.gcd n d:=Int.gcd_pos_of_ne_zero_right n (by omega)
 generalize Int.gcd n d=g at *
 have e:n/(g:Int)=c:=by rw [hc];exact Int.mul_ediv_cancel_left _ (by omega)
 rw [e,hc,Int.natAbs_mul]
 exact Nat.dvd_mul_left _ _
theorem aOh {a b:Rat}:Int.gcd ((a.num/. b.den).num*(b.num/. a.den).num) (((a.num/. b.den).den:Int)*(b.num/. a.den).den)=1:=by
 have ha:=a.den_nz
 have hb:=b.den_nz
 have h1:=(a.num/. b.den).reduced
 have h2:=(b.num/. a.den).reduced
 have ra:=a.reduced
 have rb:=b.reduced
 have n1:(a.num/. (b.den:Int)).num.natAbs∣a.num.natAbs:=aG5 hb
 have n2:(b.num/. (a.den:Int)).num.natAbs∣b.num.natAbs:=aG5 ha
 have d1:(a.num/. (b.den:Int)).den∣b.den:=aHh rfl hb
 have d2:(b.num/. (a.den:Int)).den∣a.den:=aHh rfl ha
 have x1:Nat.Coprime (a.num/. (b.den:Int)).num.natAbs (b.num/. (a.den:Int)).den:=Nat.Coprime.coprime_dvd_left n1 (Nat.Coprime.coprime_dvd_right d2 ra)
 have x2:Nat.Coprime (b.num/. (a.den:Int)).num.natAbs (a.num/. (b.den:Int)).den:=Nat.Coprime.coprime_dvd_left n2 (Nat.Coprime.coprime_dvd_right d1 rb)
 show Nat.gcd _ _=1
 rw [Int.natAbs_mul,Int.natAbs_mul,Int.natAbs_natCast,Int.natAbs_natCast]
 exact Nat.Coprime.mul_left (Nat.Coprime.mul_right h1 x1) (Nat.Coprime.mul_right x2 h2)
theorem aKP {n:Int} {d:Nat} (hd:d≠0):dl (n/. (d:Int)).num.natAbs≤dl n.natAbs∧dl (n/. (d:Int)).den≤dl d:=by
 constructor
 ·by_cases h:n=0
  ·subst h;rw [Rat.zero_divInt];exact Nat.le_refl _
  ·exact sD (Nat.le_of_dvd (by omega) (aG5 hd))
 ·exact sD (Nat.le_of_dvd (by omega) (aHh rfl hd))
theorem aLr {a b:Rat} (ha:qs a=true) (hb:qs b=true):Ev (fun K=>(fF (Qr b)).bind fun v12=>(kG K (Z a.num) v12).bind fun v14=>(fF (Qr a)).bind fun v16=>(kG K (Z b.num) v16).bind fun v18=>(cN K v14.p v18.p).bind fun v22=>(fF v14).bind fun v24=>(fF v18).bind fun v26=>(cN K v24 v26).bind fun v28=>(oC v22 v28).bind fun v30=>some v30) (Qr (a*b)):=by
 obtain⟨a1,a2⟩:=uQ ha
 obtain⟨b1,b2⟩:=uQ hb
 have ha0:=a.den_nz
 have hb0:=b.den_nz
 have p1:=aKP (n:=a.num) hb0
 have p2:=aKP (n:=b.num) ha0
 simp only [aDd,oB]
 refine Ev.bind (aDi (by omega) (by omega) (by simp;omega)) (Ev.bind (aDi (by omega) (by omega) (by simp;omega)) ?_)
 simp only [Qp]
 refine Ev.bind (zY (by omega)) ?_
 simp only [aDd,oB]
 refine Ev.bind (zY (by rw [Int.natAbs_natCast,Int.natAbs_natCast];omega)) ?_
 have e1:=(a.num/. (b.den:Int)).den_nz
 have e2:=(b.num/. (a.den:Int)).den_nz
 rw [aAP (Int.mul_ne_zero (by omega) (by omega)) aOh,oB,←aFz]
 have:a.num/. (b.den:Int)*(b.num/. (a.den:Int))=a*b:=by
  rw [Rat.divInt_mul_divInt,aFz,Int.mul_comm (b.den:Int)]
 rw [this]
 exact Ev.pure _
theorem aKN {a b:Rat} (ha:qs a=true) (hb:qs b=true):Ev (fun K=>aAs K (Qr a) (Qr b)) (Qr (a*b)):=by
 obtain⟨a1,a2⟩:=uQ ha
 obtain⟨b1,b2⟩:=uQ hb
 have key:=aLr ha hb
 unfold aAs
 simp only [aHb,Qp,aCq]
 by_cases h1:a.num=0
 ·simp only [dT h1,cC]
  rw [Rat.num_eq_zero.1 h1,Rat.zero_mul,aAW]
  exact Ev.pure _
 ·simp only [dF h1,bV]
  by_cases h2:b.num=0
  ·simp only [dT h2,cC]
   rw [Rat.num_eq_zero.1 h2,Rat.mul_zero,aAW]
   exact Ev.pure _
  ·simp only [dF h2,bV]
   by_cases h3:a.den=1
   ·simp only [dT h3,cC]
    by_cases h4:b.den=1
    ·simp only [dT h4,cC]
     refine Ev.bind (zY (by omega)) ?_
     have:a*b=(a.num*b.num)/. 1:=by rw [aFz,h3,h4];rfl
     rw [this,aL0]
     exact Ev.pure _
    ·simp only [dF h4,bV]
     exact key
   ·simp only [dF h3,bV]
    exact key
theorem aKz (a:Rat):aAn (Qr a)=some (Qr (-a)):=by
 unfold aAn
 rw [Qp,aKv,oB]
 congr 1
 rw [aCx (-a),Rat.neg_num,Rat.neg_den,Qq]
theorem aMk {a:Rat} (h:qs a=true):qs (-a)=true:=by
 unfold qs at *;rw [Rat.neg_num,Rat.neg_den,Int.natAbs_neg];exact h
theorem aOu {a b:Rat} (ha:qs a=true) (hb:qs b=true):Ev (fun K=>aBJ K (Qr a) (Qr b)) (Qr (a-b)):=by
 unfold aBJ
 simp only [aKz,oB]
 refine Ev.bind (aJ2 ha (aMk hb)) ?_
 rw [Rat.sub_eq_add_neg]
 exact Ev.pure _
theorem aH7 (a:Rat):xJ (Qr a)=some a.num.sign:=by
 unfold xJ
 rw [Qp,aMf];rfl
theorem aD8 {b:Rat} (h:b.num≠0):b⁻¹=(b.den:Int)/. b.num:=Rat.inv_def b
theorem aQb {b:Rat} (hb:qs b=true):qs (b⁻¹)=true:=by
 by_cases h:b.num=0
 ·rw [Rat.num_eq_zero.1 h,Rat.inv_zero];decide
 ·have hc:Nat.gcd b.num.natAbs b.den=1:=b.reduced
  rw [aD8 h]
  unfold qs at *
  have e1:((b.den:Int)/. b.num).num.natAbs=b.den:=by
   rw [Rat.num_divInt]
   have:Int.gcd b.num b.den=1:=hc
   rw [this]
   simp only [Int.natCast_one,Int.ediv_one,Int.natAbs_mul,Int.natAbs_natCast,Int.natAbs_sign_of_ne_zero h,Nat.one_mul]
  have e2:((b.den:Int)/. b.num).den=b.num.natAbs:=by
   rw [Rat.den_divInt,if_neg h]
   have:Int.gcd b.num b.den=1:=hc
   rw [this,Nat.div_one]
  rw [e1,e2,Bool.and_comm]
  exact hb
theorem aN7 {a b:Rat} (ha:qs a=true) (hb:qs b=true):Ev (fun K=>aBK K (Qr a) (Qr b)) (Qr (a/b)):=by
 unfold aBK
 simp only [Qp,aCq]
 by_cases h:b.num=0
 ·simp only [dT h,cC]
  rw [Rat.num_eq_zero.1 h,Rat.div_def,Rat.inv_zero,Rat.mul_zero,aAW]
  exact Ev.pure _
 ·simp only [dF h,bV,aDd,oB]
  have hc:Int.gcd (b.den:Int) b.num=1:=by rw [Int.gcd_comm];exact b.reduced
  rw [aAP h hc,←aD8 h]
  simp only [oB]
  refine Ev.bind (aKN ha (aQb hb)) ?_
  rw [Rat.div_def]
  exact Ev.pure _
theorem aHN (x y:List Int) (hl:x.length=y.length) (hL:x.length≤9000000000000):∀(t i:Nat),i+t=x.length→∀K k,t<k→iB K x y k (i:Int)=some (if x.drop i=y.drop i then .go () else .ret false)
 |0,i,hi,K,k,hk=>by
  obtain⟨k',rfl,_⟩:=bG hk
  have:i=x.length:=by omega
  subst this
  simp only [iB,dF (show¬(x.length:Int)<(x.length:Int) by omega),bV]
  rw [if_pos]
  rw [List.drop_of_length_le (Nat.le_refl _),List.drop_of_length_le (by omega)]
 |t+1,i,hi,K,k,hk=>by
  obtain⟨k',rfl,_⟩:=bG hk
  have e1:decide ((i:Int)<(x.length:Int))=true:=dT (by omega)
  have e2:=dA (xs:=x) (i:=i) (by omega)
  have e3:=dA (xs:=y) (i:=i) (by omega)
  have e5:aY ((i:Int)+1)=some ((i+1:Nat):Int):=ckN (m:=0) (by omega) (by omega)
  have dx:x.drop i=x.getD i 0::x.drop (i+1):=by
   rw [List.drop_eq_getElem_cons (by omega)];simp [List.getD_eq_getElem?_getD,show i<x.length by omega]
  have dy:y.drop i=y.getD i 0::y.drop (i+1):=by
   rw [List.drop_eq_getElem_cons (by omega)];simp [List.getD_eq_getElem?_getD,show i<y.length by omega]
  by_cases h:x.getD i 0=y.getD i 0
  ·have ih:=aHN x y hl hL t (i+1) (by omega) K k' (by omega)
   simp only [iB,e1,e2,e3,e5,nF h,cC,bV,oB,ih]
   by_cases hd:x.drop (i+1)=y.drop (i+1)
   ·rw [if_pos hd,if_pos (by rw [dx,dy,h,hd])]
   ·rw [if_neg hd,if_neg (by rw [dx,dy];intro e;exact hd (List.cons.inj e).2)]
  ·simp only [iB,e1,e2,e3,nT h,cC,oB]
   rw [if_neg (by rw [dx,dy];intro e;exact h (List.cons.inj e).1)]
theorem aK1 (x y:List Int) (hL:x.length≤9000000000000):Ev (fun K=>qW K x y) (decide (x=y)):=by
 refine⟨x.length+1,fun K hK=>?_⟩
 unfold qW
 by_cases h2:x.length=y.length
 ·have h:=aHN x y h2 hL x.length 0 (by omega) K K (by omega)
  simp only [Int.natCast_zero,List.drop_zero] at h
  simp only [nF (show(x.length:Int)=(y.length:Int) by omega),bV,h,oB]
  by_cases h3:x=y
  ·rw [if_pos h3,dT h3];rfl
  ·rw [if_neg h3,dF h3]
 ·simp only [nT (show(x.length:Int)≠(y.length:Int) by omega),cC]
  rw [dF (by intro e;subst e;exact h2 rfl)]
theorem aFP (x y:aM) (hL:x.d.length≤9000000000000):Ev (fun K=>uZ K x y) (decide (x=y)):=by
 unfold uZ
 by_cases h1:x.neg=y.neg
 ·have e1:(x.neg==y.neg)=true:=beq_iff_eq.2 h1
  simp only [e1,cC]
  refine Ev.bind (aK1 _ _ hL) ?_
  have:decide (x.d=y.d)=decide (x=y):=by
   by_cases h3:x.d=y.d
   ·rw [dT h3,dT (by cases x;cases y;simp_all)]
   ·rw [dF h3,dF (by intro e;subst e;exact h3 rfl)]
  rw [this]
  exact Ev.pure _
 ·have e1:(x.neg==y.neg)=false:=beq_false_of_ne h1
  simp only [e1,bV]
  rw [dF (by intro e;subst e;exact h1 rfl)]
  exact Ev.pure _
theorem aPr {a:Rat} (h:qs a=true):(Qr a).p.d.length≤9000000000000∧(Qr a).q.d.length≤9000000000000:=by
 obtain⟨a1,a2⟩:=uQ h
 rw [Qp,Qq,tF]
 refine⟨by omega,?_⟩
 by_cases h:a.den=1
 ·rw [if_pos h];simp
 ·rw [if_neg h,tF];simp;omega
theorem aIe (a b:Rat):(bif decide ((Qr a).p=(Qr b).p) then decide ((Qr a).q=(Qr b).q) else false)=decide (a=b):=by
 by_cases h:a=b
 ·subst h;simp
 ·rw [dF h]
  by_cases h1:(Qr a).p=(Qr b).p
  ·rw [dT h1,cC,dF]
   intro h2
   exact h (aQN (by cases hx:Qr a;cases hy:Qr b;rw [hx,hy] at h1 h2;simp_all))
  ·rw [dF h1];rfl
theorem aMa {a b:Rat} (ha:qs a=true) (hb:qs b=true):Ev (fun K=>aAM K (Qr a) (Qr b)) (decide (a=b)):=by
 obtain⟨l1,l2⟩:=aPr ha
 unfold aAM
 refine Ev.bind (aFP _ _ l1) ?_
 rw [←aIe]
 by_cases h:(Qr a).p=(Qr b).p
 ·simp only [dT h,cC]
  exact Ev.bind (aFP _ _ l2) (Ev.pure _)
 ·simp only [dF h,bV]
  exact Ev.pure _
theorem aK7 {a b:Rat} (ha:qs a=true) (hb:qs b=true):Ev (fun K=>tK K (Qr a) (Qr b)) (decide (a=b)):=by
 obtain⟨l1,l2⟩:=aPr ha
 unfold tK
 refine Ev.bind (aFW _ _ l1) ?_
 rw [←aIe]
 by_cases h:(Qr a).p=(Qr b).p
 ·simp only [dT h,cC]
  exact Ev.bind (aFW _ _ l2) (Ev.pure _)
 ·simp only [dF h,bV]
  exact Ev.pure _
theorem aIh {a b:Rat} (ha:qs a=true) (hb:qs b=true):Ev (fun K=>rY K (Qr a) (Qr b)) (Qr (a+b)):=by
 obtain⟨a1,a2⟩:=uQ ha
 obtain⟨b1,b2⟩:=uQ hb
 obtain⟨c1,c2,c3,c4,c5,c6⟩:=yS ha hb
 unfold rY
 refine Ev.bind (vP b) ?_
 simp only [Qp]
 refine Ev.bind (vL (by simp;omega)) (Ev.bind (vP a) (Ev.bind (vL (by simp;omega)) (Ev.bind (aHY (by omega) (by omega)) (Ev.bind (vP a) (Ev.bind (vP b) (Ev.bind (vL (by simp;omega)) (Ev.bind (aBM c6 (by omega) (by omega)) ?_)))))))
 rw [←aGH]
 exact Ev.pure _
theorem aLG {a b:Rat} (ha:qs a=true) (hb:qs b=true):Ev (fun K=>uG K (Qr a) (Qr b)) (Qr (a*b)):=by
 obtain⟨a1,a2⟩:=uQ ha
 obtain⟨b1,b2⟩:=uQ hb
 obtain⟨c1,c2,c3,c4,c5,c6⟩:=yS ha hb
 unfold uG
 simp only [Qp]
 refine Ev.bind (vL (by omega)) (Ev.bind (vP a) (Ev.bind (vP b) (Ev.bind (vL (by simp;omega)) (Ev.bind (aBM c6 (by omega) (by omega)) ?_))))
 rw [←aFz]
 exact Ev.pure _
theorem aHH {a:Rat} (ha:qs a=true):Ev (fun K=>sF K (Qr a)) (Qr (-a)):=by
 obtain⟨a1,a2⟩:=uQ ha
 unfold sF
 rw [Qp]
 refine Ev.bind (aEE _ (by omega)) ?_
 have:(⟨Z (-a.num),(Qr a).q⟩:bX)=Qr (-a):=by rw [aCx (-a),Rat.neg_num,Rat.neg_den,Qq]
 rw [this]
 exact Ev.pure _
theorem aMO {a b:Rat} (ha:qs a=true) (hb:qs b=true):Ev (fun K=>uE K (Qr a) (Qr b)) (Qr (a-b)):=by
 unfold uE
 refine Ev.bind (aHH hb) (Ev.bind (aIh ha (aMk hb)) ?_)
 rw [Rat.sub_eq_add_neg]
 exact Ev.pure _
theorem aLz {a:Rat} (ha:qs a=true):Ev (fun K=>tT K (Qr a)) a.num.sign:=by
 obtain⟨a1,a2⟩:=uQ ha
 unfold tT
 rw [Qp]
 exact Ev.bind (aLt (by omega)) (Ev.pure _)
theorem aLJ {a b:Rat} (ha:qs a=true) (hb:qs b=true):Ev (fun K=>uM K (Qr a) (Qr b)) (Qr (a/b)):=by
 obtain⟨a1,a2⟩:=uQ ha
 obtain⟨b1,b2⟩:=uQ hb
 obtain⟨c1,c2,c3,c4,c5,c6⟩:=yS ha hb
 have ha0:=a.den_nz
 unfold uM
 refine Ev.bind (vP b) ?_
 simp only [Qp]
 have e4:((a.den:Int)*b.num).natAbs=b.num.natAbs*a.den:=by rw [Int.natAbs_mul,Int.natAbs_natCast,Nat.mul_comm]
 have m4:=aDv b.num.natAbs a.den
 refine Ev.bind (vL (by simp;omega)) (Ev.bind (vP a) (Ev.bind (vL (by simp;omega)) ?_))
 by_cases h:b.num=0
 ·rw [h,Int.mul_zero]
  refine Ev.bind (aFb _) ?_
  rw [Rat.num_eq_zero.1 h,Rat.div_def,Rat.inv_zero,Rat.mul_zero]
  exact Ev.pure _
 ·refine Ev.bind (aBM (Int.mul_ne_zero (by omega) h) (by omega) (by rw [e4];omega)) ?_
  have:(a.num*b.den)/. ((a.den:Int)*b.num)=a/b:=by
   rw [Rat.div_def,aD8 h]
   conv=>rhs;rw [←Rat.num_divInt_den a]
   rw [Rat.divInt_mul_divInt]
  rw [this]
  exact Ev.pure _
theorem aP6 {p q:Int} (hp:-9223372036854775808≤p∧p≤9223372036854775807) (hq:-9223372036854775808≤q∧q≤9223372036854775807):Ev (fun K=>aCD K p q) (Qr ((p:Rat)/q)):=by
 have hs:∀n:Int,-9223372036854775808≤n∧n≤9223372036854775807→dl n.natAbs≤3:=fun n h=>aB8 (by
  have:PB 3=1000000000000000000000000000:=by decide
  omega)
 have h1:=hs p hp
 have h2:=hs q hq
 unfold aCD
 simp only [aFe hp,aFe hq,oB]
 rw [←Rat.divInt_eq_div]
 by_cases h:q=0
 ·subst h
  rw [Rat.divInt_zero]
  exact Ev.bind (aLA p) (Ev.pure _)
 ·exact Ev.bind (aDi h (by omega) (by omega)) (Ev.pure _)
theorem aOE {p q:Int} (hp:-9223372036854775808≤p∧p≤9223372036854775807) (hq:-9223372036854775808≤q∧q≤9223372036854775807):Ev (fun K=>vA K p q) (Qr ((p:Rat)/q)):=by
 have hs:∀n:Int,-9223372036854775808≤n∧n≤9223372036854775807→dl n.natAbs≤3:=fun n h=>aB8 (by
  have:PB 3=1000000000000000000000000000:=by decide
  omega)
 have h1:=hs p hp
 have h2:=hs q hq
 unfold vA
 refine Ev.bind (aAJ hp) (Ev.bind (aAJ hq) ?_)
 rw [←Rat.divInt_eq_div]
 by_cases h:q=0
 ·subst h
  rw [Rat.divInt_zero]
  exact Ev.bind (aFb p) (Ev.pure _)
 ·exact Ev.bind (aBM h (by omega) (by omega)) (Ev.pure _)
theorem Ev.get {α:Type} {f:Nat→Option α} {r:α} (h:Ev f r):∃K,f K=some r:=let ⟨N,h⟩:=h;⟨N,h N (Nat.le_refl _)⟩
theorem yC {α:Type} {a b:Rat} {r s:α} (h:(bif qs a&&qs b then some s else none)=some r):qs a=true∧qs b=true∧s=r:=by
 cases ha:qs a<;>cases hb:qs b<;>rw [ha,hb] at h<;>simp at h
 exact⟨rfl,rfl,h⟩
theorem aDC {α:Type} {a:Rat} {r s:α} (h:(bif qs a then some s else none)=some r):qs a=true∧s=r:=by
 cases ha:qs a<;>rw [ha] at h<;>simp at h
 exact⟨rfl,h⟩
theorem aPg {p q:Int} {r:Rat} (h:qof p q=some r):(-9223372036854775808≤p∧p≤9223372036854775807)∧(-9223372036854775808≤q∧q≤9223372036854775807)∧r=(p:Rat)/q:=by
 unfold qof at h
 obtain⟨p',h1,k1⟩:=aV h
 obtain⟨q',h2,k2⟩:=aV k1
 obtain⟨e1,e2⟩:=yV h1
 obtain⟨e3,e4⟩:=yV h2
 rw [e1,e3] at k2
 exact⟨e2,e4,(Option.some.inj k2).symm⟩
theorem xG {a b r:Rat} (h:aCu a b=some r):Ct Tryz.prog aK3 [.va (eQ a),.va (eQ b)] (.va (eQ r)):=by
 obtain⟨h1,h2,rfl⟩:=yC h
 obtain⟨K,hK⟩:=(aJ2 h1 h2).get
 exact aEW hK
theorem aE1 {a b r:Rat} (h:aEK a b=some r):Ct Tryz.prog aKY [.va (eQ a),.va (eQ b)] (.va (eQ r)):=by
 obtain⟨h1,h2,rfl⟩:=yC h
 obtain⟨K,hK⟩:=(aOu h1 h2).get
 exact aI9 hK
theorem tQ {a b r:Rat} (h:aAg a b=some r):Ct Tryz.prog aLh [.va (eQ a),.va (eQ b)] (.va (eQ r)):=by
 obtain⟨h1,h2,rfl⟩:=yC h
 obtain⟨K,hK⟩:=(aKN h1 h2).get
 exact aEu hK
theorem aCd {a b r:Rat} (h:aFN a b=some r):Ct Tryz.prog aLb [.va (eQ a),.va (eQ b)] (.va (eQ r)):=by
 obtain⟨h1,h2,rfl⟩:=yC h
 obtain⟨K,hK⟩:=(aN7 h1 h2).get
 exact aJa hK
theorem sP {a r:Rat} (h:aB0 a=some r):Ct Tryz.prog aK6 [.va (eQ a)] (.va (eQ r)):=by
 obtain⟨h1,rfl⟩:=aDC h
 exact aEX (aKz a)
theorem lD {a:Rat} {r:Int} (h:xV a=some r):Ct Tryz.prog aJi [.va (eQ a)] (.vc (pI .i64 r)):=by
 obtain⟨h1,rfl⟩:=aDC h
 exact aBn (aH7 a)
theorem sJ {a b:Rat} {r:Bool} (h:xU a b=some r):Ct Tryz.prog aJg [.va (eQ a),.va (eQ b)] (.vc (pB r)):=by
 obtain⟨h1,h2,rfl⟩:=yC h
 obtain⟨K,hK⟩:=(aMa h1 h2).get
 exact aIk hK
theorem aAj {p q:Int} {r:Rat} (h:qof p q=some r):Ct Tryz.prog aLW [.vc (pI .i64 p),.vc (pI .i64 q)] (.va (eQ r)):=by
 obtain⟨h1,h2,rfl⟩:=aPg h
 obtain⟨K,hK⟩:=(aP6 h1 h2).get
 exact aLp hK
theorem qQ {a b r:Rat} (h:aCu a b=some r):Ct Tryz.prog aCI [.va (eQ a),.va (eQ b)] (.va (eQ r)):=by
 obtain⟨h1,h2,rfl⟩:=yC h
 obtain⟨K,hK⟩:=(aIh h1 h2).get
 exact y7 hK
theorem q9 {a b r:Rat} (h:aEK a b=some r):Ct Tryz.prog aCZ [.va (eQ a),.va (eQ b)] (.va (eQ r)):=by
 obtain⟨h1,h2,rfl⟩:=yC h
 obtain⟨K,hK⟩:=(aMO h1 h2).get
 exact aCr hK
theorem lT {a b r:Rat} (h:aAg a b=some r):Ct Tryz.prog aC4 [.va (eQ a),.va (eQ b)] (.va (eQ r)):=by
 obtain⟨h1,h2,rfl⟩:=yC h
 obtain⟨K,hK⟩:=(aLG h1 h2).get
 exact aCh hK
theorem vZ {a b r:Rat} (h:aFN a b=some r):Ct Tryz.prog aCO [.va (eQ a),.va (eQ b)] (.va (eQ r)):=by
 obtain⟨h1,h2,rfl⟩:=yC h
 obtain⟨K,hK⟩:=(aLJ h1 h2).get
 exact aCy hK
theorem aCi {a r:Rat} (h:aB0 a=some r):Ct Tryz.prog aDb [.va (eQ a)] (.va (eQ r)):=by
 obtain⟨h1,rfl⟩:=aDC h
 obtain⟨K,hK⟩:=(aHH h1).get
 exact zH hK
theorem jJ {a:Rat} {r:Int} (h:xV a=some r):Ct Tryz.prog aCs [.va (eQ a)] (.vc (pI .i64 r)):=by
 obtain⟨h1,rfl⟩:=aDC h
 obtain⟨K,hK⟩:=(aLz h1).get
 exact aB1 hK
theorem vH {a b:Rat} {r:Bool} (h:xU a b=some r):Ct Tryz.prog aCg [.va (eQ a),.va (eQ b)] (.vc (pB r)):=by
 obtain⟨h1,h2,rfl⟩:=yC h
 obtain⟨K,hK⟩:=(aK7 h1 h2).get
 exact aBX hK
theorem bP {p q:Int} {r:Rat} (h:qof p q=some r):Ct Tryz.prog aDQ [.vc (pI .i64 p),.vc (pI .i64 q)] (.va (eQ r)):=by
 obtain⟨h1,h2,rfl⟩:=aPg h
 obtain⟨K,hK⟩:=(aOE h1 h2).get
 exact aC8 hK
end Go.Proofs.YtcjdedkdoagifaaGreat
set_option linter.unusedVariables false
namespace Go.Proofs.YtcjdedkdoagifaaGreat
theorem rdG {α:Type} {xs:List α} {i:Nat} {x:α} (h:xs[i]?=some x):bU xs (i:Int)=some x:=by
 unfold bU
 rw [if_pos (by omega)]
 simpa using h
theorem rdM {α:Type} {xs:List α} {i:Nat} (h:i<xs.length):∃x,x∈xs∧xs[i]?=some x∧bU xs (i:Int)=some x:=
 ⟨xs[i],List.getElem_mem h,List.getElem?_eq_getElem h,rdG (List.getElem?_eq_getElem h)⟩
theorem stG {α:Type} {xs:List α} {i:Nat} {v:α} (h:i<xs.length):p9 xs (i:Int) v=some (xs.set i v):=by
 unfold p9
 rw [if_pos (by constructor;omega;simpa using h)]
 simp
def aHW (xs:List Int):Prop:=∀x∈xs,-9223372036854775808≤x∧x≤9223372036854775807
def Bd (n:Nat) (q:Rat):Prop:=q.num.natAbs<2^n∧q.den<2^n
theorem Bd.mono {m n:Nat} {q:Rat} (h:Bd m q) (hn:m≤n):Bd n q:=
 ⟨Nat.lt_of_lt_of_le h.1 (Nat.pow_le_pow_right (by decide) hn),Nat.lt_of_lt_of_le h.2 (Nat.pow_le_pow_right (by decide) hn)⟩
theorem aJT {a n:Nat} (h:a<2^n) (hn:n≤1073741824):a.log2≤1073741824:=by
 by_cases h0:a=0
 ·subst h0;decide
 ·have:=(Nat.log2_lt h0).2 h
  omega
theorem Bd.qs {n:Nat} {q:Rat} (h:Bd n q) (hn:n≤1073741824):qs q=true:=by
 unfold Go.Proofs.YtcjdedkdoagifaaGreat.qs
 rw [Bool.and_eq_true,Nat.ble_eq,Nat.ble_eq]
 exact⟨aJT h.1 hn,aJT h.2 hn⟩
theorem aFM (n:Int) {d:Int} (hd:d≠0):(Rat.divInt n d).num.natAbs≤n.natAbs:=by
 rw [Rat.num_divInt]
 have h:(d.sign*n/((d.gcd n:Nat):Int)).natAbs≤(d.sign*n).natAbs:=Int.natAbs_ediv_le_natAbs _ _
 rw [Int.natAbs_mul,Int.natAbs_sign_of_ne_zero hd,Nat.one_mul] at h
 exact h
theorem aFH (n:Int) {d:Int} (hd:d≠0):(Rat.divInt n d).den≤d.natAbs:=by
 rw [Rat.den_divInt,if_neg hd]
 exact Nat.div_le_self _ _
theorem Bd.divInt {k:Nat} {n d:Int} (hd:d≠0) (h1:n.natAbs<2^k) (h2:d.natAbs<2^k):Bd k (Rat.divInt n d):=
 ⟨Nat.lt_of_le_of_lt (aFM n hd) h1,Nat.lt_of_le_of_lt (aFH n hd) h2⟩
theorem Bd.zero:Bd 1 0:=by constructor<;>decide
theorem aCX {a b m n:Nat} (h1:a<2^m) (h2:b<2^n):a*b<2^(m+n):=by
 rw [Nat.pow_add]
 exact Nat.mul_lt_mul'' h1 h2
theorem Bd.mul {m n:Nat} {a b:Rat} (ha:Bd m a) (hb:Bd n b):Bd (m+n) (a*b):=by
 rw [aFz]
 refine Bd.divInt (Int.mul_ne_zero (by have:=a.den_nz;omega) (by have:=b.den_nz;omega)) ?_ ?_
 ·rw [Int.natAbs_mul];exact aCX ha.1 hb.1
 ·rw [Int.natAbs_mul,Int.natAbs_natCast,Int.natAbs_natCast];exact aCX ha.2 hb.2
theorem Bd.add {m n:Nat} {a b:Rat} (ha:Bd m a) (hb:Bd n b):Bd (m+n+1) (a+b):=by
 rw [aGH]
 have h1:=aCX ha.1 hb.2
 have h2:=aCX hb.1 ha.2
 have h3:=aCX ha.2 hb.2
 rw [Nat.add_comm n m] at h2
 refine Bd.divInt (Int.mul_ne_zero (by have:=a.den_nz;omega) (by have:=b.den_nz;omega)) ?_ ?_
 ·have:=Int.natAbs_add_le (a.num*b.den) (b.num*a.den)
  rw [Int.natAbs_mul,Int.natAbs_mul,Int.natAbs_natCast,Int.natAbs_natCast] at this
  rw [Nat.pow_succ]
  omega
 ·rw [Int.natAbs_mul,Int.natAbs_natCast,Int.natAbs_natCast,Nat.pow_succ];omega
theorem Bd.neg {n:Nat} {a:Rat} (ha:Bd n a):Bd n (-a):=by
 unfold Bd
 rw [Rat.neg_num,Rat.neg_den,Int.natAbs_neg];exact ha
theorem Bd.sub {m n:Nat} {a b:Rat} (ha:Bd m a) (hb:Bd n b):Bd (m+n+1) (a-b):=by
 rw [Rat.sub_eq_add_neg];exact ha.add hb.neg
theorem Bd.inv {n:Nat} {b:Rat} (hb:Bd n b) (hn:1≤n):Bd n b⁻¹:=by
 by_cases h:b.num=0
 ·rw [Rat.num_eq_zero.1 h,Rat.inv_zero];exact Bd.zero.mono hn
 ·rw [aD8 h]
  exact Bd.divInt h (by simpa using hb.2) hb.1
theorem Bd.pos {n:Nat} {q:Rat} (h:Bd n q):1≤n:=by
 rcases Nat.eq_zero_or_pos n with h0|h0
 ·subst h0
  have:=h.2
  have:=q.den_nz
  omega
 ·exact h0
theorem Bd.div {m n:Nat} {a b:Rat} (ha:Bd m a) (hb:Bd n b):Bd (m+n) (a/b):=by
 rw [Rat.div_def];exact ha.mul (hb.inv hb.pos)
theorem xR {m n:Nat} {a b:Rat} (ha:Bd m a) (hb:Bd n b) (hm:m≤1073741824) (hn:n≤1073741824):aCu a b=some (a+b):=by
 unfold aCu;rw [ha.qs hm,hb.qs hn];rfl
theorem aAH {m n:Nat} {a b:Rat} (ha:Bd m a) (hb:Bd n b) (hm:m≤1073741824) (hn:n≤1073741824):aEK a b=some (a-b):=by
 unfold aEK;rw [ha.qs hm,hb.qs hn];rfl
theorem uF {m n:Nat} {a b:Rat} (ha:Bd m a) (hb:Bd n b) (hm:m≤1073741824) (hn:n≤1073741824):aAg a b=some (a*b):=by
 unfold aAg;rw [ha.qs hm,hb.qs hn];rfl
theorem aBL {m n:Nat} {a b:Rat} (ha:Bd m a) (hb:Bd n b) (hm:m≤1073741824) (hn:n≤1073741824):aFN a b=some (a/b):=by
 unfold aFN;rw [ha.qs hm,hb.qs hn];rfl
theorem aEU {m n:Nat} {a b:Rat} (ha:Bd m a) (hb:Bd n b) (hm:m≤1073741824) (hn:n≤1073741824):xU a b=some (decide (a=b)):=by
 unfold xU;rw [ha.qs hm,hb.qs hn];rfl
theorem aCQ {m:Nat} {a:Rat} (ha:Bd m a) (hm:m≤1073741824):aB0 a=some (-a):=by
 unfold aB0;rw [ha.qs hm];rfl
theorem o7 {m:Nat} {a:Rat} (ha:Bd m a) (hm:m≤1073741824):xV a=some a.num.sign:=by
 unfold xV;rw [ha.qs hm];rfl
theorem aI2 {p q:Int} (hp:-9223372036854775808≤p∧p≤9223372036854775807) (hq:-9223372036854775808≤q∧q≤9223372036854775807):qof p q=some ((p:Rat)/q):=by
 unfold qof;rw [lL hp,lL hq];rfl
theorem Bd.of {k:Nat} {p q:Int} (hq:q≠0) (h1:p.natAbs<2^k) (h2:q.natAbs<2^k):Bd k ((p:Rat)/q):=by
 rw [←Rat.divInt_eq_div];exact Bd.divInt hq h1 h2
theorem aCp {k:Nat} {p q:Int} (hq:q≠0) (h1:p.natAbs<2^k) (h2:q.natAbs<2^k) (hk:k≤62):∃r,qof p q=some r∧r=(p:Rat)/q∧Bd k r:=by
 have:2^k≤2^62:=Nat.pow_le_pow_right (by decide) hk
 refine⟨_,aI2 (by omega) (by omega),rfl,Bd.of hq h1 h2⟩
end Go.Proofs.YtcjdedkdoagifaaGreat
set_option linter.unusedVariables false
namespace Go.Proofs.YtcjdedkdoagifaaGreat
open Go.ChangeShapes Go.WideShapes Go.ChangeAt Go.RowKit
inductive AV
 |vi (n:Int)
 |vs (xs:List Int)
 |vb (b:Bool)
inductive AK
 |ki
 |ks
 |kb
def AV.vp:AV→VP
 | .vi n=>.vc (pI .i64 n)
 | .vs xs=>.vc (pS cI xs)
 | .vb x=>.vc (pB x)
def AV.good:AK→AV→Prop
 | .ki,.vi n=>-9223372036854775808≤n∧n≤9223372036854775807
 | .ks,.vs xs=>aHW xs∧xs.length≤aBo
 | .kb,.vb _=>True
 |_,_=>False
def AK.ok (P:Program) (t:TypeId):AK→Prop
 | .ki=>P.underlying t=some (.int .i64)
 | .ks=>∃e,P.underlying t=some (.slice e)∧P.underlying e=some (.int .i64)∧P.cellsOf e=1
 | .kb=>P.underlying t=some .bool
def aKK (W:World):rT:=fun b=>W.heap[b]?
theorem aOg {H:Type} {enc:TypeId×Value→H} {P:Program} {W:World} {base:Nat} {t:TypeId} {v:Value} {d:DataW H} {p:List MemPlace} {k:AK} (hk:k.ok P t) (hval:Value.okWide P W .any base t v) (h:DataW.Trod enc P W 0 (fun _=>true) true t v d p):
  ∃av:AV,AV.good k av∧av.vp.h (aKK W) v∧∀(W':World) (sp:Nat→Bool),(∀b,b<W.heap.size→W'.heap[b]?=W.heap[b]?)→(∀q∈p,sp q.block=true)→DataW.Trod enc P W' 0 sp true t v d p:=by
 cases k with
 |ki=>
  obtain⟨n,rfl,rfl,rfl,hw⟩:=open_int hk hval h
  exact⟨.vi n,bounds_i64 hw,rfl,fun W' sp _ _=>shut_int hk hw⟩
 |kb=>
  obtain⟨x,rfl,rfl,rfl⟩:=open_bool hk hval h
  exact⟨.vb x,trivial,rfl,fun W' sp _ _=>shut_bool hk x⟩
 |ks=>
  obtain⟨e,ht,he,hc⟩:=hk
  obtain⟨a0,aCq,cap0,rfl⟩:=okWide_slice ht hval
  obtain⟨bG,hf⟩:=h
  rcases open_ints ht he hc hf with⟨h1,h2⟩|⟨a,len,cap,zs,h1,hb,hl,hm,hz,hx,hcell,hw⟩
  ·have h1':Value.slice a0 aCq cap0=.slice none 0 0:=by simpa [Value.cells] using h1
   rw [h1']
   simp only [Prod.mk.injEq] at h2
   obtain⟨rfl,rfl⟩:=h2
   exact⟨.vs [],⟨fun x hx=>by simp at hx,by simp⟩,cR cI _,fun W' sp _ _=>shut_slice_nil ht⟩
  ·have h1':Value.slice a0 aCq cap0=.slice (some a) len cap:=by simpa [Value.cells] using h1
   rw [h1']
   simp only [Prod.mk.injEq] at hx
   obtain⟨rfl,rfl⟩:=hx
   have hzl:zs.length=cap:=by simpa using hz
   have hbl:∀i,i<zs.length→a.block<W.heap.size:=fun i hi=>by
    have:=hcell i hi
    unfold World.cell? at this
    rw [block_add] at this
    cases hq:W.heap[a.block]? with
    |none=>rw [hq] at this;cases this
    |some o=>exact(Array.getElem?_eq_some_iff.1 hq).1
   refine⟨.vs (zs.take len),⟨fun x hx=>bounds_i64 (hw x (List.mem_of_mem_take hx)),?_⟩,?_,fun W' sp hW hsp=>⟨2,?_⟩⟩
   ·have hlen0:(zs.take len).length≤cap:=by simp;omega
    have:maxLen≤aBo:=by decide
    omega
   ·have hlen:(zs.take len).length=len:=by simp;omega
    refine⟨some a,cap,by rw [hlen],?_,by rw [hlen];exact hl,fun j x hj=>?_⟩
    ·rw [hlen]
     have:maxLen≤aBo:=by decide
     omega
    ·have hjl:j<len:=by have:=(List.getElem?_eq_some_iff.1 hj).1;omega
     have hcj:=hcell j (by omega)
     have hsp:a.spot=none:=by
      have hc0:=hcell 0 (by omega)
      unfold World.cell? at hc0
      cases hq:a.spot with
      |none=>rfl
      |some s=>
       have e0:a.add 0=a:=by simp [Addr.add]
       rw [e0,hq] at hc0
       cases hh:W.heap[a.block]? with
       |none=>rw [hh] at hc0;cases hc0
       |some o=>rw [hh] at hc0;cases o<;>simp at hc0
     obtain⟨ab,ao,ax⟩:=a
     simp only at hsp
     subst hsp
     have hxz:zs.getD j 0=x:=by
      rw [List.getElem?_take,if_pos hjl] at hj
      simp [List.getD_eq_getElem?_getD,hj]
     rw [z9,hxz] at hcj
     refine⟨ab,ao,rfl,[.int .i64 x],⟨rfl,trivial⟩,fun t u hu=>?_⟩
     cases t with
     |succ t=>simp at hu
     |zero=>
      simp only [List.getElem?_cons_zero,Option.some.injEq] at hu
      subst hu
      unfold World.cell? at hcj
      have e1:ao+j*cI.n+0=ao+j:=by show ao+j*1+0=ao+j;omega
      rw [e1]
      unfold aAi aKK
      cases hh:W.heap[ab]? with
      |none=>rw [hh] at hcj;cases hcj
      |some o=>rw [hh] at hcj;cases o<;>simp_all
   ·have hz':zs.length=(if sp a.block then cap else len):=by
     by_cases h0:cap=0
     ·have:len=0:=by omega
      rw [hzl,h0,this];simp
     ·have:sp a.block=true:=hsp (.cell a.block (a.off+0)) (by
       unfold MemPlace.row
       exact List.mem_map.2 ⟨0,List.mem_range.2 (by omega),rfl⟩)
      rw [this];simpa using hzl
    exact shut_ints 0 ht he hc (Nat.zero_le _) hl hm hz' (fun i hi=>by
     rw [←hcell i hi]
     unfold World.cell?
     rw [block_add,hW _ (hbl i hi)]) hw
def AKs (P:Program):List TypeId→List AK→Prop
 |[],[]=>True
 |t::ts,k::ks=>k.ok P t∧AKs P ts ks
 |_,_=>False
def aJZ:List AK→List AV→Prop
 |[],[]=>True
 |k::ks,a::l=>AV.good k a∧aJZ ks l
 |_,_=>False
theorem aIH {H:Type} {enc:TypeId×Value→H} {P:Program} {W:World} {base:Nat}:∀{ts:List TypeId} {ks:List AK} {vs:List Value} {ds:List (DataW H)} {p:List MemPlace},AKs P ts ks→
  (∀(j:Nat) t v,ts[j]?=some t→vs[j]?=some v→Value.okWide P W .any base t v)→DataW.TrodAll enc P W 0 (fun _=>true) true ts vs ds p→
  ∃avs,aJZ ks avs∧tB (aKK W) (avs.map AV.vp) vs∧ds.length=ts.length∧∀(W':World) (sp:Nat→Bool),(∀b,b<W.heap.size→W'.heap[b]?=W.heap[b]?)→(∀q∈p,sp q.block=true)→DataW.TrodAll enc P W' 0 sp true ts vs ds p
 |[],[],vs,ds,p,_,_,h=>by
  obtain⟨rfl,rfl,rfl⟩:=trodAll_nil h
  exact⟨[],trivial,trivial,rfl,fun _ _ _ _=>trodAll_mk0⟩
 |t::ts,k::ks,vs,ds,p,hk,hv,h=>by
  obtain⟨v,vs',d,ds',q,r,rfl,rfl,rfl,h1,h2⟩:=trodAll_cons h
  obtain⟨av,a1,a2,a3⟩:=aOg hk.1 (hv 0 t v rfl rfl) h1
  obtain⟨avs,b1,b2,b3,b4⟩:=aIH hk.2 (fun j t' v' hj hj'=>hv (j+1) t' v' (by simpa using hj) (by simpa using hj')) h2
  exact⟨av::avs,⟨a1,b1⟩,⟨a2,b2⟩,by simp [b3],fun W' sp hW hsp=>trodAll_cons_mk (a3 W' sp hW fun x hx=>hsp x (by simp [hx])) (b4 W' sp hW fun x hx=>hsp x (by simp [hx]))⟩
 |[],_::_,_,_,_,hk,_,_=>hk.elim
 |_::_,[],_,_,_,hk,_,_=>hk.elim
theorem aOz {H:Type} {enc:TypeId×Value→H} {P:Program} {f:Func} {s:ChangeSpec} {apart fresh:Bool} {W W':World} {args:Array Value} {ds:List (DataW H)} {before:List MemPlace} {tb:TypeId}
  (hW:DataW.Whole enc P f.params.toList s.vars apart W args.toList ds [] before) (hv:s.vars=[]) (hr:f.resultTypes=#[tb]) (htb:P.underlying tb=some .bool)
  (hfn:s.fn H (ds++[])={results:=[.lit (.bool true)],args:=ds})
  (hargs:∀sp:Nat→Bool,(∀p∈before,sp p.block=true)→DataW.TrodAll enc P W' 0 sp true f.params.toList args.toList ds before) (hb:Below W.heap.size W W'):
  s.post enc P f apart fresh false false W args (.bool true) W':=by
 have hin:∀p∈before,(fun b=>decide (b<W.heap.size)) p.block=true:=fun p hp=>by simpa using hW.lt p hp
 refine⟨ds,[],before,[],before,[],hW,?_,?_,?_,World.keptBut_mono (fun p hp=>⟨hp,.inr (.inl hp)⟩) (hb.frame (·∈before)),fun h=>by cases h⟩
 ·rw [hfn,hr]
  exact trodAll_mk1 (shut_bool htb true)
 ·rw [hfn]
  exact hargs _ hin
 ·rw [hfn,hv]
  simp [DataW.TrodVars]
theorem aGN {H:Type} {enc:TypeId×Value→H} {P:Program} {n:Nat} {f:Func} {s:ChangeSpec} {apart fresh:Bool} {ts:List TypeId} {ks:List AK} {tb:TypeId} (hp:f.params=ts.toArray) (hk:AKs P ts ks)
  (hlaw:∀avs,aJZ ks avs→Ct P n (avs.map AV.vp) (.vc (pB true))) (hv:s.vars=[]) (hr:f.resultTypes=#[tb]) (htb:P.underlying tb=some .bool)
  (hfn:∀ds:List (DataW H),ds.length=ts.length→s.fn H (ds++[])={results:=[.lit (.bool true)],args:=ds})
  {W:World} {base:Nat} {args:Array Value} {ds gs:List (DataW H)} {before:List MemPlace} (hval:∀(j:Nat) t v,f.params[j]?=some t→args[j]?=some v→Value.okWide P W .any base t v)
  (hW:DataW.Whole enc P f.params.toList s.vars apart W args.toList ds gs before):
  Calls P n args W fun e W'=>∃v,e=.returned v∧s.post enc P f apart fresh false false W args v W':=by
 have hW':=hW
 obtain⟨p,q,hA,hV,rfl,hfz,hnd⟩:=hW
 rw [hv] at hV
 obtain⟨rfl,rfl⟩:=trodVars_none hV
 rw [hp] at hA hval
 obtain⟨avs,a1,a2,a3,a4⟩:=aIH hk (fun j t v hj hj'=>hval j t v (by simpa using hj) (by simpa using hj')) hA
 have c:=hlaw avs a1
 refine(c.run (aKK W) W args (fun b o h=>h) (by simp) (by simp) a2).mono fun e W' h=>?_
 obtain⟨v,M',Ho,qq,⟨rfl,rfl⟩,rfl,hst,hq⟩:=h
 have hv1:v=.bool true:=hq
 subst hv1
 have hkeep:∀b,b<W.heap.size→W'.heap[b]?=W.heap[b]?:=fun b hb=>hst.keep b hb (by simp)
 refine⟨_,rfl,aOz (tb:=tb) hW' hv hr htb (hfn ds a3) (fun sp hsp=>?_) ⟨hst.os,hst.tape,hst.output,hst.size,hkeep⟩⟩
 rw [hp]
 have:=a4 W' sp hkeep (fun x hx=>hsp x (by simpa using hx))
 simpa using this
theorem own:ownKnob Tryz.prog.godebug=none:=by kernel_rfl
end Go.Proofs.YtcjdedkdoagifaaGreat
set_option linter.unusedVariables false
namespace Go.Proofs.YtcjdedkdoagifaaGreat
/-- The facts, numbered. -/
def jF (P:Program) (f:FuncId) (fn:Func) (s:ChangeSpec) (c:OpenClaim):Nat→Bool
 |0=>c.wf (OpenSpec.ofChange s)
 |1=>laidOutB P
 |2=>mapsRowed P
 |3=>fn.params.all (P.readableRec ·)
 |4=>namedTie P c.named s.vars
 |5=>c.stops==[]
 |6=>P.stops==[]
 |7=>c.knobs==[]
 |8=>P.stopKnobs==[]
 |9=>c.inPlace==P.inPlace f
 |10=>c.unfollowed==P.unfollowed f
 |11=>c.recurses==P.recurses f
 |12=>c.named==P.varsNamed f
 |13=>c.maps==(fn.params.toList++s.plain.varTypes P).any (P.mapsRec ·)
 |14=>c.ifaces==(fn.params.toList++s.plain.varTypes P).any (P.ifacesRec ·)
 |15=>c.mapsOut==P.mapsAmong fn.resultTypes.toList
 |16=>c.loops==(fn.params.toList++s.plain.varTypes P).any (P.loopsFrom ·)
 |17=>c.wideKeys==(fn.params.toList++s.plain.varTypes P++fn.resultTypes.toList).any (P.wideKeysFrom ·)
 |18=>s.vars.all (P.varReadable ·)
 |19=>fn.resultTypes.all (fun t=>P.readableRec t&&decide (t<P.types.size))
 |20=>c.ifacesOut==fn.resultTypes.toList.any (P.ifacesRec ·)
 |21=>c.loopsOut==fn.resultTypes.toList.any (P.loopsFrom ·)
 |22=>c.plainKeys==P.plainKeys
 |23=>c.shortTexts.isNone
 |24=>P.stopsHeard
 |25=>P.mayEnter
 |26=>c.lifted==P.liftsFinal
 |27=>P.make==some c.make
 |28=>c.kinds==(if c.domain.isEmpty then [] else fn.params.toList.map fun t=>match P.underlying t with|some (.int k)=>some k|_=>none)
 |29=>c.pinned==c.pinnedBy
 |30=>c.veiled==(fn.params.toList++s.plain.varTypes P++fn.resultTypes.toList).any (P.veiledRec ·)
 |31=>c.veiledFits P fn.params.toList (fn.params.toList++s.plain.varTypes P++fn.resultTypes.toList)
 |_=>true
theorem aLk {P:Program} {f:FuncId} {fn:Func} {s:ChangeSpec} {c:OpenClaim} (h:∀i,i<32→jF P f fn s c i=true):joinedFacts P f fn s c=true:=by
 unfold joinedFacts
 simp only [Bool.and_eq_true]
 exact⟨⟨⟨⟨⟨⟨⟨⟨⟨⟨⟨⟨⟨⟨⟨⟨⟨⟨⟨⟨⟨⟨⟨⟨⟨⟨⟨⟨⟨⟨⟨h 0 (by decide),h 1 (by decide)⟩,h 2 (by decide)⟩,h 3 (by decide)⟩,h 4 (by decide)⟩,h 5 (by decide)⟩,h 6 (by decide)⟩,h 7 (by decide)⟩,h 8 (by decide)⟩,h 9 (by decide)⟩,h 10 (by decide)⟩,h 11 (by decide)⟩,h 12 (by decide)⟩,h 13 (by decide)⟩,h 14 (by decide)⟩,h 15 (by decide)⟩,h 16 (by decide)⟩,h 17 (by decide)⟩,h 18 (by decide)⟩,h 19 (by decide)⟩,h 20 (by decide)⟩,h 21 (by decide)⟩,h 22 (by decide)⟩,h 23 (by decide)⟩,h 24 (by decide)⟩,h 25 (by decide)⟩,h 26 (by decide)⟩,h 27 (by decide)⟩,h 28 (by decide)⟩,h 29 (by decide)⟩,h 30 (by decide)⟩,h 31 (by decide)⟩
theorem lK {φ:Nat→Prop} {n:Nat} (h:φ n) (k:∀i,i<n→φ i):∀i,i<n+1→φ i:=fun i hi=>by
 by_cases e:i=n
 ·rw [e];exact h
 ·exact k i (by omega)
end Go.Proofs.YtcjdedkdoagifaaGreat
set_option linter.unusedVariables false
namespace Go.Proofs.YtcjdedkdoagifaaGreat
open Rat
def aFI (a b:Rat):Option Int:=bif qs a&&qs b then some (if a<b then -1 else if b<a then 1 else 0) else none
def aBv (a:Rat):Option Bool:=bif qs a then some true else none
theorem aNq (x y:Int) (hx:x<0) (hy:y<0):wC (y.natAbs:Int) (x.natAbs:Int)=wC x y:=by
 unfold wC
 by_cases a:x<y
 ·rw [if_pos a,if_pos (by omega)]
 ·rw [if_neg a,if_neg (by omega)]
  by_cases b:y<x
  ·rw [if_pos b,if_pos (by omega)]
  ·rw [if_neg b,if_neg (by omega)]
theorem aEq {x y:Int} (hx:dl x.natAbs≤9000000000000) (hy:dl y.natAbs≤9000000000000):Ev (fun K=>mK K (Z x) (Z y)) (wC x y):=by
 have dx:=cG x.natAbs;have dy:=cG y.natAbs
 have tx:=oS x.natAbs;have ty:=oS y.natAbs
 unfold mK
 simp only [Z_d,uU]
 by_cases h1:x<0
 ·by_cases h2:y<0
  ·simp only [dT h1,dT h2,bne_self_eq_false,bV,cC]
   have h:=zV dy dx ty tx (by show dl _≤_;omega)
   rw [d6,d6,aNq x y h1 h2] at h
   exact Ev.bind h (Ev.pure _)
  ·simp only [dT h1,dF h2,Bool.bne_false,cC]
   unfold wC
   rw [if_pos (by omega)]
   exact Ev.pure _
 ·by_cases h2:y<0
  ·simp only [dF h1,dT h2,Bool.bne_true,Bool.not_false,cC,bV]
   unfold wC
   rw [if_neg (by omega),if_pos (by omega)]
   exact Ev.pure _
  ·simp only [dF h1,dF h2,bne_self_eq_false,bV]
   have h:=zV dx dy tx ty (by show dl _≤_;omega)
   rw [d6,d6,show((x.natAbs:Nat):Int)=x by omega,show((y.natAbs:Nat):Int)=y by omega] at h
   exact Ev.bind h (Ev.pure _)
theorem aFY (a b:Rat):(if a<b then -1 else if b<a then 1 else 0:Int)=wC (a.num*b.den) (b.num*a.den):=by
 unfold wC
 simp only [Rat.lt_iff]
theorem aFr (u v:Int) (p q:Nat) (hp:0<p) (hq:0<q) (h:u.sign≠v.sign∨u=0∧v=0):wC u.sign v.sign=wC (u*q) (v*p):=by
 have key:∀(w:Int) (n:Nat),0<n→(w<0∧w.sign=-1∧w*n<0)∨(w=0∧w.sign=0∧w*n=0)∨(0<w∧w.sign=1∧0<w*n):=fun w n hn=>by
  rcases Int.lt_trichotomy w 0 with hw|hw|hw
  ·exact .inl ⟨hw,Int.sign_eq_neg_one_of_neg hw,Int.mul_neg_of_neg_of_pos hw (by omega)⟩
  ·exact .inr (.inl ⟨hw,by rw [hw];rfl,by rw [hw,Int.zero_mul]⟩)
  ·exact .inr (.inr ⟨hw,Int.sign_eq_one_of_pos hw,Int.mul_pos hw (by omega)⟩)
 unfold wC
 rcases key u q hq with⟨_,e1,e2⟩|⟨_,e1,e2⟩|⟨_,e1,e2⟩<;>rcases key v p hp with⟨_,f1,f2⟩|⟨_,f1,f2⟩|⟨_,f1,f2⟩<;>rw [e1,f1] at h<;>rw [e1,f1]<;>(repeat' split)<;>omega
theorem aJ5 (u:Int):-9223372036854775808≤u.sign∧u.sign≤9223372036854775807∧dl u.sign.natAbs≤1:=by
 have h1:dl 1=1:=dl1
 have h0:dl 0=0:=wX
 rcases Int.lt_trichotomy u 0 with hw|hw|hw
 ·rw [Int.sign_eq_neg_one_of_neg hw];exact⟨by omega,by omega,by show dl 1≤1;omega⟩
 ·rw [hw];exact⟨by decide,by decide,by show dl 0≤1;omega⟩
 ·rw [Int.sign_eq_one_of_pos hw];exact⟨by omega,by omega,by show dl 1≤1;omega⟩
theorem aIA {a b:Rat} (ha:qs a=true) (hb:qs b=true):Ev (fun K=>xQ K (Qr a) (Qr b)) (if a<b then -1 else if b<a then 1 else 0):=by
 obtain⟨a1,a2⟩:=uQ ha
 obtain⟨b1,b2⟩:=uQ hb
 obtain⟨c1,c2,c3⟩:=yS ha hb
 obtain⟨s1,s2,s3⟩:=aJ5 a.num
 obtain⟨t1,t2,t3⟩:=aJ5 b.num
 have ad:=a.den_pos
 have bd:=b.den_pos
 rw [aFY]
 unfold xQ
 simp only [aH7,oB,aFe ⟨s1,s2⟩,aFe ⟨t1,t2⟩]
 by_cases h:a.num.sign=b.num.sign
 ·simp only [nF h,bV]
  by_cases h0:a.num.sign=0
  ·simp only [qT h0,cC]
   have e:=aFr a.num b.num a.den b.den ad bd (.inr ⟨Int.sign_eq_zero_iff_zero.1 h0,Int.sign_eq_zero_iff_zero.1 (h▸h0)⟩)
   rw [←e]
   exact Ev.bind (aEq (by omega) (by omega)) (Ev.pure _)
  ·simp only [qF h0,bV,aDd,oB,Qp]
   exact Ev.bind (zY (by simp;omega)) (Ev.bind (zY (by simp;omega)) (Ev.bind (aEq (by omega) (by omega)) (Ev.pure _)))
 ·simp only [nT h,cC]
  rw [←aFr a.num b.num a.den b.den ad bd (.inl h)]
  exact Ev.bind (aEq (by omega) (by omega)) (Ev.pure _)
theorem aGZ {a b:Rat} (ha:qs a=true) (hb:qs b=true):Ev (fun K=>rM K (Qr a) (Qr b)) (if a<b then -1 else if b<a then 1 else 0):=by
 obtain⟨a1,a2⟩:=uQ ha
 obtain⟨b1,b2⟩:=uQ hb
 obtain⟨c1,c2,c3⟩:=yS ha hb
 rw [aFY]
 unfold rM
 simp only [Qp]
 exact Ev.bind (vP b) (Ev.bind (vL (by simp;omega)) (Ev.bind (vP a) (Ev.bind (vL (by simp;omega)) (Ev.bind (aC6 (by omega) (by omega)) (Ev.pure _)))))
theorem vdig {d:Int} (h:0≤d∧d<1000000000):lC d=some false:=by
 unfold lC
 rw [dF (by omega),bV,dF (by omega)]
theorem aIq {xs:List Int} (hd:l4 xs) (hl:xs.length≤9000000000000) (K:Nat):∀(m i:Nat),i+m=xs.length→∀k,m<k→gD K xs lC k i=some (.go ())
 |0,i,h,k+1,_=>by
  simp only [gD]
  rw [dF (by omega),bV]
 |m+1,i,h,k+1,hk=>by
  simp only [gD]
  rw [dT (by omega),cC,dA (by omega),oB,vdig (hd i),oB,bV,show((i:Nat):Int)+1=((i+1:Nat):Int) by omega,aGO (by omega) (by omega),oB]
  exact aIq hd hl K m (i+1) (by omega) k (by omega)
theorem aId {n:Nat} (h:dl n≠0):(cK n).getD (dl n-1) 0≠0:=by
 rcases oS n with h1|h1
 ·exact absurd (by unfold dl;rw [h1];rfl) h
 ·exact h1
theorem aM4 {x:Int} (hx:dl x.natAbs≤9000000000000):Ev (fun K=>pQ K (Z x)) true:=by
 refine⟨dl x.natAbs+1,fun K hK=>?_⟩
 have hc:kV K (cK x.natAbs) lC=some false:=by
  unfold kV p8
  have:=aIq (cG x.natAbs) (by show dl _≤_;omega) K (dl x.natAbs) 0 (by show 0+dl _=dl _;omega) K (by omega)
  rw [show((0:Nat):Int)=0 from rfl] at this
  rw [this]
  rfl
 show pQ K (Z x)=some true
 unfold pQ
 have hl0:(((cK x.natAbs).length:Int)==0)=decide (x=0):=aCq
 rw [Z_d,hc,oB,bV,hl0]
 by_cases h:x=0
 ·rw [dT h,cC,uU,dF (by omega)];rfl
 ·have hl:dl x.natAbs≠0:=by rw [Ne,wG];omega
  have hlen:(cK x.natAbs).length=dl x.natAbs:=rfl
  rw [dF h,bV,dT (by omega),cC,aGO (by omega) (by omega),oB,hlen,show((dl x.natAbs:Nat):Int)-1=((dl x.natAbs-1:Nat):Int) by omega,dA (by omega),oB,nT (aId hl)]
theorem aGs {x:Int} (hl:dl x.natAbs≤9000000000000) (K:Nat):∀(m i:Nat),i+m=dl x.natAbs→∀k,m<k→jB K (Z x) k i=some (.go ())
 |0,i,h,k+1,_=>by
  have hlen:(Z x).d.length=dl x.natAbs:=rfl
  simp only [jB]
  rw [dF (show¬(i:Int)<((Z x).d.length:Int) by omega),bV]
 |m+1,i,h,k+1,hk=>by
  have hlen:(Z x).d.length=dl x.natAbs:=rfl
  have hd:0≤(Z x).d.getD i 0∧(Z x).d.getD i 0<1000000000:=cG x.natAbs i
  simp only [jB]
  rw [dT (show(i:Int)<((Z x).d.length:Int) by omega),cC,dA (by omega),oB,dF (by omega),bV,oB,dF (by omega),bV,show((i:Nat):Int)+1=((i+1:Nat):Int) by omega,aGO (by omega) (by omega),oB]
  exact aGs hl K m (i+1) (by omega) k (by omega)
theorem aJX {x:Int} (hx:dl x.natAbs≤9000000000000):Ev (fun K=>k5 K (Z x)) true:=by
 refine⟨dl x.natAbs+1,fun K hK=>?_⟩
 have:=aGs hx K (dl x.natAbs) 0 (by omega) K (by omega)
 show k5 K (Z x)=some true
 unfold k5
 rw [show((0:Nat):Int)=0 from rfl] at this
 rw [this]
 show mN K (Z x)=some true
 unfold mN
 rw [aCq]
 by_cases h:x=0
 ·rw [dT h,cC,uU,dF (by omega)];rfl
 ·have hl:dl x.natAbs≠0:=by rw [Ne,wG];omega
  have hlen:(cK x.natAbs).length=dl x.natAbs:=rfl
  rw [dF h,bV,Z_d,hlen,aGO (by omega) (by omega),oB,show((dl x.natAbs:Nat):Int)-1=((dl x.natAbs-1:Nat):Int) by omega,dA (by omega),oB,nT (aId hl)]
theorem aSb (a:Rat):Qr a=⟨Z a.num,Z (if a.den=1 then 0 else a.den)⟩:=by
 rw [aCx]
 by_cases h:a.den=1
 ·rw [if_pos h,if_pos h,Z0]
 ·rw [if_neg h,if_neg h]
theorem aMP {a:Rat}:(if a.den=1 then(0:Int) else a.den)≠1∧0≤(if a.den=1 then(0:Int) else a.den)∧dl (if a.den=1 then(0:Int) else a.den).natAbs≤dl a.den∧((if a.den=1 then(0:Int) else a.den)≠0→Int.gcd a.num (if a.den=1 then(0:Int) else a.den)=1):=by
 by_cases h:a.den=1
 ·rw [if_pos h];exact⟨by omega,by omega,by show dl 0≤_;rw [wX];omega,fun h=>absurd rfl h⟩
 ·rw [if_neg h];exact⟨by omega,by omega,by simp,fun _=>a.reduced⟩
theorem aLD {a:Rat} (ha:qs a=true):Ev (fun K=>zU K (Qr a)) true:=by
 obtain⟨a1,a2⟩:=uQ ha
 obtain⟨q1,q2,q3,q4⟩:=@aMP a
 rw [aSb]
 generalize(if a.den=1 then(0:Int) else a.den)=q at *
 unfold zU
 refine Ev.bind (aM4 (by omega)) ?_
 simp only [Bool.not_true,bV]
 refine Ev.bind (aM4 (by omega)) ?_
 simp only [Bool.not_true,bV,uU,dF (show¬q<0 by omega),aBu,oB,dF q1,aCq]
 by_cases h:q=0
 ·simp only [dT h,cC];exact Ev.pure _
 ·simp only [dF h,bV]
  refine Ev.bind (aJK (by omega) (by omega)) ?_
  rw [q4 h]
  simp only [aBu,oB]
  exact Ev.pure _
theorem aJE {a:Rat} (ha:qs a=true):Ev (fun K=>sS K (Qr a)) true:=by
 obtain⟨a1,a2⟩:=uQ ha
 obtain⟨q1,q2,q3,q4⟩:=@aMP a
 rw [aSb]
 generalize(if a.den=1 then(0:Int) else a.den)=q at *
 unfold sS
 refine Ev.bind (aJX (by omega)) ?_
 simp only [Bool.not_true,bV]
 refine Ev.bind (aJX (by omega)) ?_
 simp only [Bool.not_true,bV,uU,dF (show¬q<0 by omega),aDe,oB,dF q1,aCq]
 by_cases h:q=0
 ·simp only [dT h,cC];exact Ev.pure _
 ·simp only [dF h,bV]
  refine Ev.bind (aIl (by omega) (by omega)) ?_
  rw [q4 h]
  simp only [aDe,oB]
  exact Ev.pure _
theorem uY {a b:Rat} {r:Int} (h:aFI a b=some r):Ct Tryz.prog aFK [.va (eQ a),.va (eQ b)] (.vc (pI .i64 r)):=by
 obtain⟨h1,h2,rfl⟩:=yC h
 obtain⟨K,hK⟩:=(aIA h1 h2).get
 exact aE0 hK
theorem r6 {a:Rat} {r:Bool} (h:aBv a=some r):Ct Tryz.prog aIW [.va (eQ a)] (.vc (pB r)):=by
 obtain⟨h1,rfl⟩:=aDC h
 obtain⟨K,hK⟩:=(aLD h1).get
 exact aG9 hK
theorem aAN {a b:Rat} {r:Int} (h:aFI a b=some r):Ct Tryz.prog aA7 [.va (eQ a),.va (eQ b)] (.vc (pI .i64 r)):=by
 obtain⟨h1,h2,rfl⟩:=yC h
 obtain⟨K,hK⟩:=(aGZ h1 h2).get
 exact aAK hK
theorem oR {a:Rat} {r:Bool} (h:aBv a=some r):Ct Tryz.prog aBR [.va (eQ a)] (.vc (pB r)):=by
 obtain⟨h1,rfl⟩:=aDC h
 obtain⟨K,hK⟩:=(aJE h1).get
 exact aBt hK
end Go.Proofs.YtcjdedkdoagifaaGreat
