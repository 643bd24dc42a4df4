/- Texts of the proof, part 3: P5 P6 P7 P8 R1 RZ PR L1 FR FJ PC K16. -/
import Derived.Test.YtolfcbpgmfbgmaaGreatRows
import Derived.WalkKit
import Derived.ProofKit
import Derived.OpenShut
import Derived.RangeFuncSeq
import Derived.Below
import Derived.Test.YtolfcbpgmfbgmaaGreatZ2
set_option linter.unusedSimpArgs false
set_option linter.unusedVariables false
namespace Go.Proofs.YtolfcbpgmfbgmaaGreat
/-- The guess is too great. -/
theorem aFH {P V X Y w Q g:Int} (hP:0<P) (hV1:X*P≤V) (hw2:w<(Y+1)*P) (hQ1:Q*V≤w) (hg:0≤g) (h:Y+1≤g*X) (hV:0≤V):Q<g:=by
 rcases Int.lt_or_le Q g with h1|h1
 ·exact h1
 ·exfalso
  have a:g*V≤Q*V:=Int.mul_le_mul_of_nonneg_right h1 hV
  have b:(Y+1)*P≤g*X*P:=Int.mul_le_mul_of_nonneg_right h (by omega)
  have c:g*(X*P)≤g*V:=Int.mul_le_mul_of_nonneg_left hV1 hg
  rw [Int.mul_assoc] at b
  omega
theorem aFr {P V X Y w Q g:Int} (hP:0<P) (hV2:V<(X+1)*P) (hw1:Y*P≤w) (hQ2:w<(Q+1)*V) (hg:g≤X) (h:g*X≤Y) (hQ:0≤Q) (hV:0≤V):g≤Q+1:=by
 rcases Int.lt_or_le (Q+1) g with h1|h1
 ·exfalso
  have a:(Q+1)*V≤(g-1)*V:=Int.mul_le_mul_of_nonneg_right (by omega) hV
  have b:(g-1)*V≤(g-1)*((X+1)*P):=Int.mul_le_mul_of_nonneg_left (by omega) (by omega)
  have c:g*X*P≤Y*P:=Int.mul_le_mul_of_nonneg_right h (by omega)
  have d:(g-1)*((X+1)*P)=g*X*P+(g-X-1)*P:=by grind
  have e:(g-X-1)*P≤(-1)*P:=Int.mul_le_mul_of_nonneg_right (by omega) (by omega)
  omega
 ·exact h1
theorem rS {a b c:Int} (hc:0<c) (h:a*c<b*c):a<b:=Int.lt_of_mul_lt_mul_right h (by omega)
theorem aDy {b v u:List Int} {N j:Nat} {P V w Q v1 v2 u2 top:Int} (hb:b.length=N+2) (hb2:b.length≤9000000000000) (hvl:v.length=N+2) (huj:j+N<u.length) (hj:j≤9000000000000) (e1:v.getD (N+1) 0=v1) (e2:v.getD N 0=v2) (e3:u.getD (j+N) 0=u2)
  (hP:0<P) (hV:0≤V) (hv1:500000000≤v1) (hv1':v1<1000000000) (hv2:0≤v2) (hv2':v2<1000000000) (hu2:0≤u2) (hu2':u2<1000000000)
  (hV1:(v1*1000000000+v2)*P≤V) (hV2:V<(v1*1000000000+v2+1)*P) (hw1:(top*1000000000+u2)*P≤w) (hw2:w<(top*1000000000+u2+1)*P) (hwV:w<V*1000000000) (hQ:0≤Q) (hQ1:Q*V≤w) (hQ2:w<(Q+1)*V):
  ∀(n:Nat) (g r:Int),0≤r→r<1000000000→1000000000≤r+n*500000000→g*v1+r=top→Q≤g→g≤1000000001→
  ∃g',(Q≤g'∧g'≤Q+1∧g'<1000000000)∧∀K k,n<k→dH K b v u (j:Int) k g r=some g'
 |0,g,r,h0,h1,h2,_,_,_=>by omega
 |n+1,g,r,h0,h1,h2,h3,h4,h5=>by
  have QB:Q<1000000000:=by
   have hVpos:0<V:=by
    rcases Int.lt_or_le 0 V with h|h
    ·exact h
    ·have:V=0:=by omega
     subst this
     omega
   exact rS hVpos (by rw [Int.mul_comm 1000000000 V];omega)
  have htop:top≤v1*1000000000+v2:=by
   have t1:(top*1000000000)*P≤(top*1000000000+u2)*P:=Int.mul_le_mul_of_nonneg_right (by omega) (by omega)
   have t2:(top*1000000000)*P<((v1*1000000000+v2+1)*1000000000)*P:=by
    have:(v1*1000000000+v2+1)*1000000000*P=(v1*1000000000+v2+1)*P*1000000000:=by grind
    rw [this]
    omega
   have t3:=rS hP t2
   omega
  have c0:aO ((b.length:Int)-1)=some ((N+1:Nat):Int):=wB (m:=0) (by omega) (by omega)
  have c1:=cE (xs:=v) (i:=N+1) (by omega)
  rw [e1] at c1
  have c2:aO ((b.length:Int)-2)=some ((N:Nat):Int):=wB (m:=0) (by omega) (by omega)
  have c3:=cE (xs:=v) (i:=N) (by omega)
  rw [e2] at c3
  have c4:aO ((j:Int)+(b.length:Int))=some ((j+N+2:Nat):Int):=wB (m:=0) (by omega) (by omega)
  have c5:aO (((j+N+2:Nat):Int)-2)=some ((j+N:Nat):Int):=wB (m:=0) (by omega) (by omega)
  have c6:=cE (xs:=u) (i:=j+N) huj
  rw [e3] at c6
  have c7:aO (r+v1)=some (r+v1):=nA (by omega)
  have c8:aO (g-1)=some (g-1):=nA (by omega)
  have less:Q<g→∃g',(Q≤g'∧g'≤Q+1∧g'<1000000000)∧∀K k,n<k→(bif decide (1000000000≤r+v1) then some (g-1) else dH K b v u (j:Int) k (g-1) (r+v1))=some g':=by
   intro hlt
   have h3':(g-1)*v1+(r+v1)=top:=by rw [Int.sub_mul];omega
   by_cases hr:1000000000≤r+v1
   ·have hg1:(g-1)*v1<1000000000*v1:=by omega
    have hg2:g-1<1000000000:=rS (by omega) hg1
    have hg3:(g-1)*(v1*1000000000+v2)≤top*1000000000+u2:=by
     have m1:(g-1)*v2≤999999999*999999999:=Int.mul_le_mul (by omega) (by omega) hv2 (by omega)
     have m2:(g-1)*(v1*1000000000+v2)=((g-1)*v1)*1000000000+(g-1)*v2:=by grind
     rw [m2]
     omega
    refine⟨g-1,⟨by omega,aFr hP hV2 hw1 hQ2 (by omega) hg3 hQ hV,hg2⟩,fun K k hk=>?_⟩
    rw [dT hr,cU]
   ·obtain⟨g',i1,i2⟩:=aDy hb hb2 hvl huj hj e1 e2 e3 hP hV hv1 hv1' hv2 hv2' hu2 hu2' hV1 hV2 hw1 hw2 hwV hQ hQ1 hQ2 n (g-1) (r+v1) (by omega) (by omega) (by omega) h3' (by omega) (by omega)
    refine⟨g',i1,fun K k hk=>?_⟩
    rw [dF hr,cP]
    exact i2 K k hk
  by_cases hg:1000000000≤g
  ·obtain⟨g',i1,i2⟩:=less (by omega)
   refine⟨g',i1,fun K k hk=>?_⟩
   obtain⟨k',rfl,_⟩:=bI hk
   simp only [dH,dT hg,cU,oB,c0,c1,c7,c8]
   exact i2 K k' (by omega)
  ·have m:=aCl (x:=g) (y:=v2) (by omega) (by omega) hv2 hv2'
   have c9:aO (g*v2)=some (g*v2):=nA (by omega)
   have c10:aO (r*1000000000)=some (r*1000000000):=nA (by omega)
   have c11:aO (r*1000000000+u2)=some (r*1000000000+u2):=nA (by omega)
   have m2:g*(v1*1000000000+v2)=(g*v1)*1000000000+g*v2:=by grind
   by_cases hc:r*1000000000+u2<g*v2
   ·obtain⟨g',i1,i2⟩:=less (aFH hP hV1 hw2 hQ1 (by omega) (by rw [m2];omega) hV)
    refine⟨g',i1,fun K k hk=>?_⟩
    obtain⟨k',rfl,_⟩:=bI hk
    simp only [dH,dF hg,cP,cU,oB,c0,c1,c2,c3,c4,c5,c6,c7,c8,c9,c10,c11,dT hc]
    exact i2 K k' (by omega)
   ·refine⟨g,⟨h4,aFr hP hV2 hw1 hQ2 (by omega) (by rw [m2];omega) hQ hV,by omega⟩,fun K k hk=>?_⟩
    obtain⟨k',rfl,_⟩:=bI hk
    simp only [dH,dF hg,cP,oB,c2,c3,c4,c5,c6,c9,c10,c11,dF hc]
structure aJl (u0 v:List Int) (j:Nat) (g:Int) (u:List Int) (c:Int) (i:Nat):Prop where
 len:u.length=u0.length
 ok:jZ u
 c0:0≤c
 c1:c<1000000000
 same:∀s,s<j∨j+i≤s→u.getD s 0=u0.getD s 0
 val:W u j i-c*PB i=W u0 j i-g*W v 0 i
theorem aJl.step {u0 v u:List Int} {j i:Nat} {g c x c':Int} (h:aJl u0 v j g u c i) (hl:j+i<u0.length) (hx0:0≤x) (hx1:x<1000000000) (h0:0≤c') (h1:c'<1000000000) (hv:x=u.getD (j+i) 0-g*v.getD i 0-c+c'*1000000000):aJl u0 v j g (u.set (j+i) x) c' (i+1) where
 len:=by simpa using h.len
 ok:=h.ok.set hx0 hx1
 c0:=h0
 c1:=h1
 same:=fun s hs=>by rw [d8 (by omega)];exact h.same s (by omega)
 val:=by
  have hlen:=h.len
  have hs:=h.same (j+i) (.inr (Nat.le_refl _))
  have hval:=h.val
  rw [cV,cV,cV,dC (by omega),uX (.inr (by omega)),Nat.zero_add]
  simp only [PB]
  rw [hs] at hv
  grind
theorem aBN {b v u0:List Int} {j:Nat} {g:Int} (hg0:0≤g) (hg1:g<1000000000) (hv:jZ v) (hvl:b.length≤v.length) (hl:j+b.length≤u0.length) (hL:u0.length≤9000000000000):∀(t i:Nat) (u:List Int) (c:Int),i+t=b.length→aJl u0 v j g u c i→
  ∃u' c',aJl u0 v j g u' c' b.length∧∀K k,t<k→eD K b v (j:Int) g k u c (i:Int)=some (u',c')
 |0,i,u,c,hi,hP=>by
  have:i=b.length:=by omega
  subst this
  refine⟨u,c,hP,fun K k hk=>?_⟩
  obtain⟨k',rfl,_⟩:=bI hk
  simp [eD]
 |t+1,i,u,c,hi,hP=>by
  have hlen:=hP.len
  have c0:=hP.c0
  have c1:=hP.c1
  have hu:=hP.ok (j+i)
  have hvi:=hv i
  have m:=aCl hg0 hg1 hvi.1 hvi.2
  have e1:decide ((i:Int)<(b.length:Int))=true:=dT (by omega)
  have e2:aO ((i:Int)+(j:Int))=some ((j+i:Nat):Int):=wB (m:=0) (by omega) (by omega)
  have e3:=cE (xs:=u) (i:=j+i) (by omega)
  have e4:=cE (xs:=v) (i:=i) (by omega)
  have e5:aO (g*v.getD i 0)=some (g*v.getD i 0):=nA (by omega)
  have e6:aO (u.getD (j+i) 0-g*v.getD i 0)=some (u.getD (j+i) 0-g*v.getD i 0):=nA (by omega)
  have e8:aO ((i:Int)+1)=some ((i+1:Nat):Int):=wB (m:=0) (by omega) (by omega)
  have e9:∀x,oK u ((j+i:Nat):Int) x=some (u.set (j+i) x):=fun x=>qO (by omega)
  obtain⟨z,hz⟩:∃z,u.getD (j+i) 0-g*v.getD i 0-c=z:=⟨_,rfl⟩
  have e7:aO (u.getD (j+i) 0-g*v.getD i 0-c)=some z:=by rw [hz];exact nA (by omega)
  by_cases hneg:z<0
  ·have f1:aO (-z)=some (-z):=nA (by omega)
   have f2:aO (-z+1000000000)=some (-z+1000000000):=nA (by omega)
   have f3:aO (-z+1000000000-1)=some (-z+1000000000-1):=nA (by omega)
   have f4:xP (-z+1000000000-1) 1000000000=some ((-z+1000000000-1)/1000000000):=tV (by omega) (by omega) (by omega)
   have f5:aO ((-z+1000000000-1)/1000000000*1000000000)=some ((-z+1000000000-1)/1000000000*1000000000):=nA (by omega)
   have f6:aO (z+(-z+1000000000-1)/1000000000*1000000000)=some (z+(-z+1000000000-1)/1000000000*1000000000):=nA (by omega)
   obtain⟨u',c',h1,h2⟩:=aBN hg0 hg1 hv hvl hl hL t (i+1) _ _ (by omega) (hP.step (x:=z+(-z+1000000000-1)/1000000000*1000000000) (c':=(-z+1000000000-1)/1000000000) (by omega) (by omega) (by omega) (by omega) (by omega) (by omega))
   refine⟨u',c',h1,fun K k hk=>?_⟩
   obtain⟨k',rfl,_⟩:=bI hk
   simp only [eD,e1,e2,e3,e4,e5,e6,e7,e8,e9,f1,f2,f3,f4,f5,f6,dT hneg,cU,oB]
   exact h2 K k' (by omega)
  ·obtain⟨u',c',h1,h2⟩:=aBN hg0 hg1 hv hvl hl hL t (i+1) _ _ (by omega) (hP.step (x:=z) (c':=0) (by omega) (by omega) (by omega) (by omega) (by omega) (by omega))
   refine⟨u',c',h1,fun K k hk=>?_⟩
   obtain⟨k',rfl,_⟩:=bI hk
   simp only [eD,e1,e2,e3,e4,e5,e6,e7,e8,e9,dF hneg,cU,cP,oB]
   exact h2 K k' (by omega)
structure aFJ (u0 v:List Int) (j:Nat) (u:List Int) (c:Int) (i:Nat):Prop where
 len:u.length=u0.length
 ok:∀s,s<j+v.length→0≤u.getD s 0∧u.getD s 0<1000000000
 c0:0≤c
 c1:c≤1
 same:∀s,s<j∨j+i≤s→u.getD s 0=u0.getD s 0
 val:W u j i+c*PB i=W u0 j i+W v 0 i
theorem aFJ.step {u0 v u:List Int} {j i:Nat} {c x c':Int} (h:aFJ u0 v j u c i) (hl:j+i<u0.length) (hx0:0≤x) (hx1:x<1000000000) (h0:0≤c') (h1:c'≤1) (hv:x+c'*1000000000=u.getD (j+i) 0+v.getD i 0+c):aFJ u0 v j (u.set (j+i) x) c' (i+1) where
 len:=by simpa using h.len
 ok:=fun s hs=>by
  rw [xF];split
  ·exact⟨hx0,hx1⟩
  ·exact h.ok s hs
 c0:=h0
 c1:=h1
 same:=fun s hs=>by rw [d8 (by omega)];exact h.same s (by omega)
 val:=by
  have hlen:=h.len
  have hs:=h.same (j+i) (.inr (Nat.le_refl _))
  have hval:=h.val
  rw [cV,cV,cV,dC (by omega),uX (.inr (by omega)),Nat.zero_add]
  simp only [PB]
  rw [hs] at hv
  grind
theorem aDi {b v u0:List Int} {j:Nat} (hv:jZ v) (hvl:b.length=v.length) (hl:j+b.length≤u0.length) (hL:u0.length≤9000000000000):∀(t i:Nat) (u:List Int) (c:Int),i+t=b.length→aFJ u0 v j u c i→
  ∃u' c',aFJ u0 v j u' c' b.length∧∀K k,t<k→gC K b v (j:Int) k u c (i:Int)=some (u',c')
 |0,i,u,c,hi,hP=>by
  have:i=b.length:=by omega
  subst this
  refine⟨u,c,hP,fun K k hk=>?_⟩
  obtain⟨k',rfl,_⟩:=bI hk
  simp [gC]
 |t+1,i,u,c,hi,hP=>by
  have hlen:=hP.len
  have c0:=hP.c0
  have c1:=hP.c1
  have hu:=hP.ok (j+i) (by omega)
  have hvi:=hv i
  have e1:decide ((i:Int)<(b.length:Int))=true:=dT (by omega)
  have e2:aO ((i:Int)+(j:Int))=some ((j+i:Nat):Int):=wB (m:=0) (by omega) (by omega)
  have e3:=cE (xs:=u) (i:=j+i) (by omega)
  have e4:=cE (xs:=v) (i:=i) (by omega)
  have e5:aO (u.getD (j+i) 0+v.getD i 0)=some (u.getD (j+i) 0+v.getD i 0):=nA (by omega)
  have e6:aO (u.getD (j+i) 0+v.getD i 0+c)=some (u.getD (j+i) 0+v.getD i 0+c):=nA (by omega)
  have e7:wV (u.getD (j+i) 0+v.getD i 0+c) 1000000000=some ((u.getD (j+i) 0+v.getD i 0+c)%1000000000):=qI (by omega) (by omega)
  have e9:xP (u.getD (j+i) 0+v.getD i 0+c) 1000000000=some ((u.getD (j+i) 0+v.getD i 0+c)/1000000000):=tV (by omega) (by omega) (by omega)
  have e8:aO ((i:Int)+1)=some ((i+1:Nat):Int):=wB (m:=0) (by omega) (by omega)
  have e10:∀x,oK u ((j+i:Nat):Int) x=some (u.set (j+i) x):=fun x=>qO (by omega)
  obtain⟨u',c',h1,h2⟩:=aDi hv hvl hl hL t (i+1) _ _ (by omega) (hP.step (x:=(u.getD (j+i) 0+v.getD i 0+c)%1000000000) (c':=(u.getD (j+i) 0+v.getD i 0+c)/1000000000) (by omega) (by omega) (by omega) (by omega) (by omega) (by omega))
  refine⟨u',c',h1,fun K k hk=>?_⟩
  obtain⟨k',rfl,_⟩:=bI hk
  simp only [gC,e1,e2,e3,e4,e5,e6,e7,e8,e9,e10,cU,oB]
  exact h2 K k' (by omega)
structure aDk (m n:Nat) (v:List Int) (S:Int) (q u:List Int) (J:Nat):Prop where
 ql:q.length=m-n+1
 ul:u.length=m+1
 uok:jZ u
 qok:∀s,J≤s→0≤q.getD s 0∧q.getD s 0<1000000000
 lt:vD u<vD v*PB J
 val:S=vD v*(PB J*W q J (m-n+1-J))+vD u
theorem aGj {u:List Int} {k c:Nat} (hu:jZ u) (h:W u 0 (k+c)<PB k):W u 0 (k+c)=W u 0 k:=by
 rw [t7] at h ⊢
 have h1:=(xT (hu.dr 0 k)).1
 have h2:=(xT (hu.dr (0+k) c)).1
 have hp:=o5 k
 rcases Int.lt_or_le 0 (W u (0+k) c) with h3|h3
 ·have:PB k*1≤PB k*W u (0+k) c:=Int.mul_le_mul_of_nonneg_left h3 (by omega)
  omega
 ·have:W u (0+k) c=0:=by omega
  rw [this];simp
theorem aDk.next {m n j:Nat} {v q u u4:List Int} {S Q w:Int} (h:aDk m n v S q u (j+1)) (hj:j+1≤m-n+1) (hnm:n≤m) (hv:jZ v) (hvl:v.length=n) (hw:W u j (n+1)=w) (hQ:0≤Q) (hQB:Q<1000000000) (hQ1:Q*vD v≤w) (hQ2:w<(Q+1)*vD v)
  (h1:u4.length=m+1) (h2:jZ u4) (h3:∀s,s<j∨j+n<s→u4.getD s 0=u.getD s 0) (h4:W u4 j (n+1)=w-Q*vD v):aDk m n v S (q.set j Q) u4 j:=by
 have hV:=hv.lt
 rw [hvl] at hV
 have hR:W u 0 (m+1)=W u 0 j+PB j*w:=by
  have hlt:=h.lt
  unfold vD at hlt hV
  rw [h.ul] at hlt
  have hb:W v 0 v.length*PB (j+1)≤PB n*PB (j+1):=Int.mul_le_mul_of_nonneg_right (by omega) (by have:=o5 (j+1);omega)
  rw [←y9,show n+(j+1)=j+(n+1) by omega] at hb
  obtain⟨c,hc⟩:∃c,m+1=(j+(n+1))+c:=⟨m-j-n,by omega⟩
  rw [hc] at hlt ⊢
  rw [aGj h.uok (by omega),t7,Nat.zero_add,hw]
 have hR4:W u4 0 (m+1)=W u 0 j+PB j*(w-Q*vD v):=by
  obtain⟨c,hc⟩:∃c,m+1=(j+(n+1))+c:=⟨m-j-n,by omega⟩
  have hz:W u4 (j+(n+1)) c=W u (j+(n+1)) c:=aBa fun s _=>h3 _ (.inr (by omega))
  have hz0:PB (j+(n+1))*W u (j+(n+1)) c=0:=by
   have e:=hR
   rw [hc,t7,t7 u 0 j,Nat.zero_add,Nat.zero_add,hw] at e
   omega
  have hl:W u4 0 j=W u 0 j:=aBa fun s hs=>by rw [Nat.zero_add];exact h3 s (.inl hs)
  rw [hc,t7,t7 u4 0 j,Nat.zero_add,Nat.zero_add,hz,hz0,hl,h4]
  omega
 have hlo:=(xT (h.uok.dr 0 j)).2
 have hlo0:=(xT (h.uok.dr 0 j)).1
 refine⟨by simpa using h.ql,h1,h2,fun s hs=>?_,?_,?_⟩
 ·rw [xF]
  by_cases e:s=j
  ·rw [if_pos ⟨e,by have:=h.ql;omega⟩];exact⟨hQ,hQB⟩
  ·rw [if_neg (fun x=>e x.1)];exact h.qok s (by omega)
 ·show W u4 0 u4.length<_
  rw [h1,hR4]
  have:PB j*(w-Q*vD v)≤PB j*(vD v-1):=Int.mul_le_mul_of_nonneg_left (by rw [Int.add_mul] at hQ2;omega) (by omega)
  have e:PB j*(vD v-1)=vD v*PB j-PB j:=by grind
  omega
 ·have hval:=h.val
  have e1:vD u=W u 0 (m+1):=by unfold vD;rw [h.ul]
  have e2:vD u4=W u4 0 (m+1):=by unfold vD;rw [h1]
  rw [e1,hR] at hval
  have hql:=h.ql
  rw [e2,hR4,show m-n+1-j=(m-n+1-(j+1))+1 by omega,aAA,dC (by omega),uX (.inl (by omega))]
  simp only [PB] at hval
  rw [hval]
  grind
theorem aCk {b v:List Int} {N m:Nat} {S:Int} (hb:b.length=N+2) (hL:m≤900000000000) (hnm:N+2≤m) (hv:jZ v) (hvl:v.length=N+2) (hv1:500000000≤v.getD (N+1) 0):∀(J:Nat) (q u:List Int),J≤m-(N+2)+1→aDk m (N+2) v S q u J→
  ∃q' u',aDk m (N+2) v S q' u' 0∧sQ (fun K k=>dW K b v k q u ((J:Int)-1)) (q',u')
 |0,q,u,_,h=>⟨q,u,h,sQ.of 1 fun K k hk=>by
   obtain⟨k',rfl,_⟩:=bI (n:=0) hk
   simp [dW]⟩
 |j+1,q,u,hJ,h=>by
  have hul:=h.ul
  have hql:=h.ql
  obtain⟨v1,e1⟩:∃x,v.getD (N+1) 0=x:=⟨_,rfl⟩
  obtain⟨v2,e2⟩:∃x,v.getD N 0=x:=⟨_,rfl⟩
  obtain⟨u2,e3⟩:∃x,u.getD (j+N) 0=x:=⟨_,rfl⟩
  obtain⟨u1,e4⟩:∃x,u.getD (j+N+1) 0=x:=⟨_,rfl⟩
  obtain⟨u0,e5⟩:∃x,u.getD (j+N+2) 0=x:=⟨_,rfl⟩
  have d1:=hv (N+1);have d2:=hv N;have d3:=h.uok (j+N);have d4:=h.uok (j+N+1);have d5:=h.uok (j+N+2)
  rw [e1] at d1 hv1;rw [e2] at d2;rw [e3] at d3;rw [e4] at d4;rw [e5] at d5
  have hP:=o5 N
  have hVd:vD v=W v 0 N+(v1*1000000000+v2)*PB N:=by
   unfold vD
   rw [hvl,t7,Nat.zero_add,W2,e1,e2,Int.mul_comm (PB N)];grind
  have hwl:=xT (h.uok.dr j N)
  have hvl2:=xT (hv.dr 0 N)
  obtain⟨w,hw⟩:∃x,W u j (N+2+1)=x:=⟨_,rfl⟩
  have hwd:w=W u j N+((u0*1000000000+u1)*1000000000+u2)*PB N:=by
   rw [←hw,show N+2+1=N+3 by omega,t7,aAA,aAA,W1,e3,e4,show j+N+1+1=j+N+2 by omega,e5];grind
  have hVn:=hv.nonneg
  have hVpos:0<vD v:=by
   have:1*PB N≤(v1*1000000000+v2)*PB N:=Int.mul_le_mul_of_nonneg_right (by omega) (by omega)
   omega
  obtain⟨V,hV⟩:∃x,vD v=x:=⟨_,rfl⟩
  have hVlt:=hv.lt
  rw [hvl] at hVlt
  rw [hV] at hVd hVpos hVn hVlt
  have hwV:w<V*1000000000:=by
   have hlt:=h.lt
   rw [hV] at hlt
   have hb':V*PB (j+1)≤PB (N+2)*PB (j+1):=Int.mul_le_mul_of_nonneg_right (by omega) (by have:=o5 (j+1);omega)
   rw [←y9,show N+2+(j+1)=j+(N+2+1) by omega] at hb'
   obtain⟨c,hc⟩:∃c,m+1=(j+(N+2+1))+c:=⟨m-j-(N+2),by omega⟩
   unfold vD at hlt
   rw [hul,hc] at hlt
   rw [aGj h.uok (by omega),t7,Nat.zero_add,hw] at hlt
   have h0:=(xT (h.uok.dr 0 j)).1
   simp only [PB] at hlt
   have:w*PB j<V*1000000000*PB j:=by
    rw [Int.mul_assoc,Int.mul_comm 1000000000,Int.mul_comm w];omega
   exact rS (o5 j) this
  have hw0:0≤w:=by rw [←hw];exact(xT (h.uok.dr j _)).1
  obtain⟨Q,hQ⟩:∃x,w/V=x:=⟨_,rfl⟩
  have hQ0:0≤Q:=by rw [←hQ];exact Int.ediv_nonneg hw0 (by omega)
  have hdm:=Int.mul_ediv_add_emod w V
  have hm0:=Int.emod_nonneg w (show V≠0 by omega)
  have hm1:=Int.emod_lt_of_pos w hVpos
  rw [hQ] at hdm
  have hQ1:Q*V≤w:=by rw [Int.mul_comm];omega
  have hQ2:w<(Q+1)*V:=by rw [Int.add_mul,Int.mul_comm];omega
  have hQB:Q<1000000000:=rS hVpos (by rw [Int.mul_comm 1000000000 V];omega)
  obtain⟨top,htop⟩:∃x,u0*1000000000+u1=x:=⟨_,rfl⟩
  have hV1:(v1*1000000000+v2)*PB N≤V:=by omega
  have hV2:V<(v1*1000000000+v2+1)*PB N:=by rw [Int.add_mul,Int.one_mul];omega
  have hw1:(top*1000000000+u2)*PB N≤w:=by rw [←htop];omega
  have hw2:w<(top*1000000000+u2+1)*PB N:=by rw [←htop,Int.add_mul _ 1,Int.one_mul];omega
  have htlim:top≤v1*1000000000+v2:=by
   have t1:(top*1000000000)*PB N≤(top*1000000000+u2)*PB N:=Int.mul_le_mul_of_nonneg_right (by omega) (by omega)
   have t2:(top*1000000000)*PB N<((v1*1000000000+v2+1)*1000000000)*PB N:=by
    have:(v1*1000000000+v2+1)*1000000000*PB N=(v1*1000000000+v2+1)*PB N*1000000000:=by grind
    rw [this]
    omega
   have t3:=rS hP t2
   omega
  obtain⟨g0,hg0⟩:∃x,top/v1=x:=⟨_,rfl⟩
  obtain⟨r0,hr0⟩:∃x,top%v1=x:=⟨_,rfl⟩
  have hdm2:=Int.mul_ediv_add_emod top v1
  have hr1:=Int.emod_nonneg top (show v1≠0 by omega)
  have hr2:=Int.emod_lt_of_pos top (show 0<v1 by omega)
  rw [hg0,hr0] at hdm2
  rw [hr0] at hr1 hr2
  have hg00:0≤g0:=by rw [←hg0];exact Int.ediv_nonneg (by omega) (by omega)
  have hgq:Q<g0+1:=by
   refine aFH hP hV1 hw2 hQ1 (by omega) ?_ (by omega)
   have m1:(g0+1)*(v1*1000000000+v2)=(v1*g0+v1)*1000000000+(g0+1)*v2:=by grind
   have m2:0≤(g0+1)*v2:=Int.mul_nonneg (by omega) d2.1
   rw [m1]
   omega
  have hgm:g0≤1000000001:=by
   have:g0*v1<1000000002*v1:=by rw [Int.mul_comm g0];omega
   have:=rS (show 0<v1 by omega) this
   omega
  obtain⟨g,⟨hg1,hg2,hg3⟩,hgF⟩:=aDy (b:=b) (v:=v) (u:=u) (j:=j) hb (by omega) hvl (by omega) (by omega) e1 e2 e3 hP (Int.le_of_lt hVpos) hv1 d1.2 d2.1 d2.2 d3.1 d3.2 hV1 hV2 hw1 hw2 hwV hQ0 hQ1 hQ2 2 g0 r0 hr1 (by omega) (by omega) (by rw [Int.mul_comm];omega) (by omega) hgm
  obtain⟨u',c',hS,hSF⟩:=aBN (b:=b) (v:=v) (u0:=u) (j:=j) (g:=g) (by omega) hg3 hv (by omega) (by omega) (by omega) b.length 0 u 0 (by omega) ⟨rfl,h.uok,by omega,by omega,fun _ _=>rfl,by simp [W]⟩
  have hSl:=hS.len
  have hSc0:=hS.c0
  have hSc1:=hS.c1
  have hSv:=hS.val
  rw [hb] at hSv
  have hSs:u'.getD (j+N+2) 0=u0:=by rw [hS.same _ (.inr (by omega)),e5]
  obtain⟨t,ht⟩:∃x,u0-c'=x:=⟨_,rfl⟩
  have hVW:W v 0 (N+2)=V:=by rw [←hV];unfold vD;rw [hvl]
  rw [hVW] at hSv
  have hWn:w=W u j (N+2)+u0*PB (N+2):=by rw [←hw,cV,←Nat.add_assoc,e5]
  have hWu':=xT (hS.ok.dr j (N+2))
  have hPn:=o5 (N+2)
  have hD:W u' j (N+2)+t*PB (N+2)=w-g*V:=by rw [←ht,Int.sub_mul];omega
  have i1:decide (0≤(j:Int))=true:=dT (by omega)
  have i0:((j+1:Nat):Int)-1=(j:Int):=by omega
  have i2:aO ((j:Int)+(b.length:Int))=some ((j+N+2:Nat):Int):=wB (m:=0) (by omega) (by omega)
  have i3:=cE (xs:=u) (i:=j+N+2) (by omega)
  rw [e5] at i3
  have i4:aO (u0*1000000000)=some (u0*1000000000):=nA (by omega)
  have i5:aO (((j+N+2:Nat):Int)-1)=some ((j+N+1:Nat):Int):=wB (m:=0) (by omega) (by omega)
  have i6:=cE (xs:=u) (i:=j+N+1) (by omega)
  rw [e4] at i6
  have i7:aO (u0*1000000000+u1)=some top:=by rw [htop];exact nA (by omega)
  have i8:aO ((b.length:Int)-1)=some ((N+1:Nat):Int):=wB (m:=0) (by omega) (by omega)
  have i9:=cE (xs:=v) (i:=N+1) (by omega)
  rw [e1] at i9
  have i10:xP top v1=some g0:=by rw [←hg0];exact tV (by omega) (by omega) (by omega)
  have i11:wV top v1=some r0:=by rw [←hr0];exact qI (by omega) (by omega)
  have i12:=cE (xs:=u') (i:=j+N+2) (by omega)
  rw [hSs] at i12
  have i13:aO (u0-c')=some t:=by rw [ht];exact nA (by omega)
  have i14:oK u' ((j+N+2:Nat):Int) t=some (u'.set (j+N+2) t):=qO (by omega)
  have i15:bP (u'.set (j+N+2) t) ((j+N+2:Nat):Int)=some t:=by rw [cE (by simp;omega),dC (by omega)]
  have i16:aO ((j:Int)-1)=some ((j:Int)-1):=nA (by omega)
  have i17:=cE (xs:=q) (i:=j) (by omega)
  have i18:∀x,oK q (j:Int) x=some (q.set j x):=fun x=>qO (by omega)
  have hgF':Ev (fun K=>dH K b v u (j:Int) K g0 r0) g:=⟨3,fun K hK=>hgF K K (by omega)⟩
  have hSF':Ev (fun K=>eD K b v (j:Int) g K u 0 0) (u',c'):=⟨b.length+1,fun K hK=>hSF K K (by omega)⟩
  by_cases hneg:t<0
  ·
   have hgQ:g=Q+1:=by
    have:t*PB (N+2)≤(-1)*PB (N+2):=Int.mul_le_mul_of_nonneg_right (by omega) (by omega)
    rcases Int.lt_or_le Q g with h1|h1
    ·omega
    ·have:g=Q:=by omega
     subst this
     omega
   obtain⟨u3,c3,hB,hBF⟩:=aDi (b:=b) (v:=v) (u0:=u'.set (j+N+2) t) (j:=j) hv (by omega) (by simp;omega) (by simp;omega) b.length 0 (u'.set (j+N+2) t) 0 (by omega)
    ⟨rfl,fun s hs=>by rw [d8 (by omega)];exact hS.ok s,by omega,by omega,fun _ _=>rfl,by simp [W]⟩
   have hBl:=hB.len
   simp only [List.length_set] at hBl
   have hBs:u3.getD (j+N+2) 0=t:=by rw [hB.same _ (.inr (by omega)),dC (by omega)]
   have hBv:=hB.val
   rw [hb,uX (.inr (by omega)),hVW] at hBv
   have hWu3:=xT (u:=u3) (j:=j) (n:=N+2) fun s hs=>hB.ok _ (by omega)
   have hx:t+c3=0:=by
    have hfin:W u3 j (N+2)+(t+c3)*PB (N+2)=w-Q*V:=by
     rw [hgQ,Int.add_mul,Int.one_mul] at hD
     rw [Int.add_mul];omega
    have hlim:w-Q*V<V:=by rw [Int.add_mul] at hQ2;omega
    rcases Int.lt_trichotomy (t+c3) 0 with hx|hx|hx
    ·have:(t+c3)*PB (N+2)≤(-1)*PB (N+2):=Int.mul_le_mul_of_nonneg_right (by omega) (by omega)
     omega
    ·exact hx
    ·have:1*PB (N+2)≤(t+c3)*PB (N+2):=Int.mul_le_mul_of_nonneg_right (by omega) (by omega)
     omega
   obtain⟨q',u'',h5,h6⟩:=aCk hb hL hnm hv hvl (by rw [e1];exact hv1) j (q.set j Q) (u3.set (j+N+2) (t+c3)) (by omega)
    (h.next hJ hnm hv hvl hw hQ0 hQB (by rw [hV];exact hQ1) (by rw [hV];exact hQ2) (by simp;omega) (fun s=>by
      rw [xF]
      by_cases e:s=j+N+2
      ·rw [if_pos ⟨e,by omega⟩,hx];omega
      ·rw [if_neg (fun x=>e x.1)]
       rcases Nat.lt_or_ge s (j+N+2) with h1|h1
       ·exact hB.ok s (by omega)
       ·rw [hB.same s (.inr (by omega)),d8 (by omega),hS.same s (.inr (by omega))];exact h.uok s) (fun s hs=>by
      rw [d8 (by omega)]
      rw [hB.same s (by omega),d8 (by omega),hS.same s (by omega)]) (by
      rw [cV,←Nat.add_assoc,dC (by omega),uX (.inr (by omega)),hV]
      rw [hgQ,Int.add_mul,Int.one_mul] at hD
      rw [Int.add_mul];omega))
   refine⟨q',u'',h5,sQ.step ?_⟩
   have k1:aO (g-1)=some Q:=by rw [show g-1=Q by omega];exact nA (by omega)
   have k2:=cE (xs:=u3) (i:=j+N+2) (by omega)
   rw [hBs] at k2
   have hc30:=hB.c0
   have hc31:=hB.c1
   have k3:aO (t+c3)=some (t+c3):=nA (by omega)
   have k4:oK u3 ((j+N+2:Nat):Int) (t+c3)=some (u3.set (j+N+2) (t+c3)):=qO (by omega)
   have hBF':Ev (fun K=>gC K b v (j:Int) K (u'.set (j+N+2) t) 0 0) (u3,c3):=⟨b.length+1,fun K hK=>hBF K K (by omega)⟩
   rw [i0]
   simp only [dW,i1,i2,i3,i4,i5,i6,i7,i8,i9,i10,i11,cU,oB]
   refine sQ.bind hgF' ?_
   simp only [mP]
   refine sQ.bind hSF' ?_
   simp only [mO,i2,i12,i13,i14,i15,dT hneg,cU,oB,k1]
   refine sQ.bind hBF' ?_
   simp only [oV,i2,k2,k3,k4,i17,i18,i16,oB]
   exact h6
  ·have hgQ:g=Q:=by
    have:0≤t*PB (N+2):=Int.mul_nonneg (by omega) (by omega)
    rcases Int.lt_or_le Q g with h1|h1
    ·have:g=Q+1:=by omega
     subst this
     omega
    ·omega
   subst hgQ
   have hx:t=0:=by
    have hlim:w-g*V<V:=by rw [Int.add_mul] at hQ2;omega
    rcases Int.lt_or_le 0 t with hx|hx
    ·have:1*PB (N+2)≤t*PB (N+2):=Int.mul_le_mul_of_nonneg_right (by omega) (by omega)
     omega
    ·omega
   obtain⟨q',u'',h5,h6⟩:=aCk hb hL hnm hv hvl (by rw [e1];exact hv1) j (q.set j g) (u'.set (j+N+2) t) (by omega)
    (h.next hJ hnm hv hvl hw hQ0 hQB (by rw [hV];exact hQ1) (by rw [hV];exact hQ2) (by simp;omega) (hS.ok.set (by omega) (by omega)) (fun s hs=>by
      rw [d8 (by omega)]
      rw [hS.same s (by omega)]) (by
      rw [cV,←Nat.add_assoc,dC (by omega),uX (.inr (by omega)),hV]
      omega))
   refine⟨q',u'',h5,sQ.step ?_⟩
   rw [i0]
   simp only [dW,i1,i2,i3,i4,i5,i6,i7,i8,i9,i10,i11,cU,oB]
   refine sQ.bind hgF' ?_
   simp only [mP]
   refine sQ.bind hSF' ?_
   simp only [mO,i2,i12,i13,i14,i15,dF hneg,cP,oB,i17,i18,i16]
   exact h6
end Go.Proofs.YtolfcbpgmfbgmaaGreat
set_option linter.unusedVariables false
namespace Go.Proofs.YtolfcbpgmfbgmaaGreat
theorem aHW {b s:Int} (h0:1≤b) (h1:b<1000000000) (hs:s=1000000000/(b+1)):1≤s∧s≤500000000∧500000000≤s*b∧s*(b+1)≤1000000000:=by
 have d:=Int.mul_ediv_add_emod 1000000000 (b+1)
 have m0:=Int.emod_nonneg 1000000000 (show b+1≠0 by omega)
 have m1:=Int.emod_lt_of_pos 1000000000 (show 0<b+1 by omega)
 rw [←hs] at d
 have hs1:1≤s:=by
  rcases Int.lt_or_le 0 s with h|h
  ·exact h
  ·have:(b+1)*s≤0:=Int.mul_nonpos_of_nonneg_of_nonpos (by omega) (by omega)
   omega
 have hs2:2*s≤(b+1)*s:=Int.mul_le_mul_of_nonneg_right (by omega) (by omega)
 have e1:(b+1)*s=s*b+s:=by grind
 have e2:s*(b+1)=s*b+s:=by grind
 have e3:0≤(s-1)*(b-1):=Int.mul_nonneg (by omega) (by omega)
 have e4:(s-1)*(b-1)=s*b-s-b+1:=by grind
 refine⟨hs1,by omega,by omega,by omega⟩
theorem aDL {u:List Int} {n i:Nat} (h:i<n):(u.take n).getD i 0=u.getD i 0:=by
 simp only [List.getD_eq_getElem?_getD,List.getElem?_take];rw [if_pos h]
theorem jZ.take {u:List Int} (h:jZ u) (n:Nat):jZ (u.take n):=fun i=>by
 rcases Nat.lt_or_ge i n with h1|h1
 ·rw [aDL h1];exact h i
 ·rw [sN (by simp;omega)];omega
theorem aHt {u:List Int} {n:Nat} (h:jZ u) (hn:n≤u.length) (hv:vD u<PB n):vD (u.take n)=vD u:=by
 obtain⟨c,hc⟩:=Nat.exists_eq_add_of_le hn
 have e:(u.take n).length=n:=by simp;omega
 unfold vD at *
 rw [e]
 rw [hc] at hv ⊢
 rw [aGj h hv]
 exact aBa fun i hi=>by rw [Nat.zero_add];exact aDL hi
theorem aI2 {a b:List Int} (ha:jZ a) (hb:jZ b) (tb:Top b) (hb2:2≤b.length) (hab:b.length≤a.length) (hL:a.length≤60000000000):
  ∃q r,q.length≤a.length∧r.length≤a.length∧jZ q∧jZ r∧vD q=vD a/vD b∧vD r=vD a%vD b∧Ev (fun K=>rB K a b) (q,r):=by
 obtain⟨N,hN⟩:∃N,b.length=N+2:=⟨b.length-2,by omega⟩
 have hbn:b≠[]:=by intro e;subst e;simp at hN
 obtain⟨b1,hb1⟩:∃x,b.getD (N+1) 0=x:=⟨_,rfl⟩
 have hb1d:=hb (N+1)
 rw [hb1] at hb1d
 have hb10:b1≠0:=by
  rcases tb with h|h
  ·exact absurd h hbn
  ·rw [hN,show N+2-1=N+1 by omega,hb1] at h;exact h
 obtain⟨s,hs⟩:∃x,1000000000/(b1+1)=x:=⟨_,rfl⟩
 obtain⟨hs1,hs2,hs3,hs4⟩:=aHW (b:=b1) (by omega) hb1d.2 hs.symm
 obtain⟨u,hul,huo,huv,huF⟩:=aCP (a:=a) (f:=s) ha (by omega) (by omega) hL
 obtain⟨vb,hvl,hvo,hvv,hvF⟩:=aCP (a:=b) (f:=s) hb (by omega) (by omega) (by omega)
 have hPN:=o5 (N+1)
 have hbv:vD b=W b 0 (N+1)+b1*PB (N+1):=by unfold vD;rw [hN,cV,Nat.zero_add,hb1]
 have hbw:=xT (hb.dr 0 (N+1))
 have hVlt:vD vb<PB (N+2):=by
  rw [hvv]
  have h1:vD b<(b1+1)*PB (N+1):=by rw [Int.add_mul,Int.one_mul];omega
  have h2:s*vD b<s*((b1+1)*PB (N+1)):=Int.mul_lt_mul_of_pos_left h1 (by omega)
  have h3:s*(b1+1)*PB (N+1)≤1000000000*PB (N+1):=Int.mul_le_mul_of_nonneg_right hs4 (by omega)
  rw [Int.mul_assoc] at h3
  show _<PB (N+1)*1000000000
  omega
 have hv1:=hvo.take (N+2)
 have hvd:=aHt (n:=N+2) hvo (by omega) hVlt
 have hvtl:(vb.take (N+2)).length=N+2:=by simp;omega
 obtain⟨v,hv⟩:∃x,vb.take (N+2)=x:=⟨_,rfl⟩
 rw [hv] at hv1 hvd hvtl
 have hVs:vD v=s*vD b:=by rw [hvd,hvv]
 have hV1:500000000≤v.getD (N+1) 0:=by
  have e:vD v=W v 0 (N+1)+v.getD (N+1) 0*PB (N+1):=by unfold vD;rw [hvtl,cV,Nat.zero_add]
  have h1:=(xT (hv1.dr 0 (N+1))).2
  have h2:s*(b1*PB (N+1))≤s*vD b:=Int.mul_le_mul_of_nonneg_left (by omega) (by omega)
  rw [←Int.mul_assoc] at h2
  have h3:s*b1*PB (N+1)<(v.getD (N+1) 0+1)*PB (N+1):=by rw [Int.add_mul _ 1,Int.one_mul];omega
  have:=rS hPN h3
  omega
 have hbpos:=tb.pos hb hbn
 rw [hN,show N+2-1=N+1 by omega] at hbpos
 have start:aDk a.length (N+2) v (s*vD a) (List.replicate (a.length-(N+2)+1) 0) u (a.length-(N+2)+1):=by
  refine⟨by simp,hul,huo,fun t _=>?_,?_,?_⟩
  ·simp only [List.getD_eq_getElem?_getD,List.getElem?_replicate];split<;>simp
  ·rw [huv,hVs]
   have h1:=ha.lt
   have e:a.length=(N+1)+(a.length-(N+2)+1):=by omega
   rw [e,y9] at h1
   have hp:=o5 (a.length-(N+2)+1)
   have h2:PB (N+1)*PB (a.length-(N+2)+1)≤vD b*PB (a.length-(N+2)+1):=Int.mul_le_mul_of_nonneg_right hbpos (by omega)
   have h3:s*vD a<s*(vD b*PB (a.length-(N+2)+1)):=Int.mul_lt_mul_of_pos_left (by omega) (by omega)
   rw [←Int.mul_assoc] at h3
   exact h3
  ·rw [huv,Nat.sub_self,aMB];simp
 obtain⟨q,u',hP,hF⟩:=aCk (b:=b) (m:=a.length) hN (by omega) (by omega) hv1 hvtl hV1 _ _ _ (Nat.le_refl _) start
 have hql:=hP.ql
 have hu'l:=hP.ul
 have hqo:jZ q:=fun i=>hP.qok i (Nat.zero_le _)
 have hlt:=hP.lt
 have hval:=hP.val
 rw [hVs] at hlt hval
 simp only [PB,Int.mul_one,Int.one_mul,Nat.sub_zero] at hlt hval
 have hqv:vD q=W q 0 (a.length-(N+2)+1):=by unfold vD;rw [hql]
 rw [←hqv] at hval
 have hu'n:=hP.uok.nonneg
 have hu'lt:vD u'<PB (N+2):=by rw [←hVs,hvd] at hlt;omega
 have hto:=hP.uok.take (N+2)
 have htv:=aHt (n:=N+2) hP.uok (by omega) hu'lt
 have htl:(u'.take (N+2)).length=N+2:=by simp;omega
 obtain⟨r,r0,hrl,hro,hrv,hr0,hrF⟩:=aDu (a:=u'.take (N+2)) (b:=s) hto (by omega) (by omega) (by omega)
 have hrho:vD u'=s*(vD a-vD b*vD q):=by
  rw [Int.mul_sub,←Int.mul_assoc];omega
 have hr:vD r=vD a-vD b*vD q:=by
  rw [hrv,htv,hrho,Int.mul_ediv_cancel_left _ (by omega)]
 have hrn:0≤vD r:=hro.nonneg
 have hrb:vD r<vD b:=by
  rw [hrho,←hr] at hlt
  rw [Int.mul_comm,Int.mul_comm s] at hlt
  exact rS (by omega) hlt
 have hbp:0<vD b:=by omega
 refine⟨q,r,by omega,by omega,hqo,hro,?_,?_,?_⟩
 ·have e:vD a=vD r+vD b*vD q:=by omega
  rw [e,Int.add_mul_ediv_left _ _ (by omega),Int.ediv_eq_zero_of_lt hrn hrb,Int.zero_add]
 ·have e:vD a=vD r+vD b*vD q:=by omega
  rw [e,Int.add_mul_emod_self_left,Int.emod_eq_of_lt hrn hrb]
 ·have e1:aO ((b.length:Int)-1)=some ((N+1:Nat):Int):=wB (m:=0) (by omega) (by omega)
  have e2:=cE (xs:=b) (i:=N+1) (by omega)
  rw [hb1] at e2
  have e3:aO (b1+1)=some (b1+1):=nA (by omega)
  have e4:xP 1000000000 (b1+1)=some s:=by rw [←hs];exact tV (by omega) (by omega) (by omega)
  have e5:slL vb 0 (b.length:Int)=some v:=by rw [hN,←hv];exact aEN (by omega)
  have e6:aO ((a.length:Int)-(b.length:Int))=some ((a.length-(N+2):Nat):Int):=wB (m:=0) (by omega) (by omega)
  have e7:aO (((a.length-(N+2):Nat):Int)+1)=some ((a.length-(N+2)+1:Nat):Int):=wB (m:=0) (by omega) (by omega)
  have e8:wK ((a.length-(N+2)+1:Nat):Int) (0:Int)=some (List.replicate (a.length-(N+2)+1) 0):=xR (by omega)
  have e9:((a.length-(N+2):Nat):Int)=((a.length-(N+2)+1:Nat):Int)-1:=by omega
  have e10:slL u' 0 (b.length:Int)=some (u'.take (N+2)):=by rw [hN];exact aEN (by omega)
  simp only [rB,e1,e2,e3,e4,oB]
  refine Ev.bind huF (Ev.bind hvF ?_)
  simp only [e5,e6,e7,e8,oB]
  rw [e9]
  refine Ev.bind hF.ev ?_
  simp only [pR,e10,oB]
  exact Ev.bind hrF (Ev.pure _)
theorem aKn {n:Nat} (h:n≤18446744073709551615):IntKind.u64.wrap (n:Int)=(n:Int):=IntWalk.u64_in _ ⟨by omega,by omega⟩
theorem aF7 (m n:Nat):dl (m/n)≤dl m:=n9 (Nat.div_le_self m n)
theorem aD9 (m n:Nat):dl (m%n)≤dl m:=n9 (Nat.mod_le m n)
theorem vF {n:Nat} (h:(bL n).length≤2):n<1000000000000000000:=by
 have:=aCF n
 have h2:=aBj (a:=dl n) (b:=2) h
 have:PB 2=1000000000000000000:=by decide
 omega
theorem aCN {m n:Nat} (hn:0<n) (hL:dl m≤60000000000):Ev (fun K=>lJ K (bL m) (bL n)) (Z (m/n:Nat),Z (m%n:Nat)):=by
 have dm:=bN m;have dn:=bN n
 have vm:=dJ m;have vn:=dJ n
 have tm:=nJ m;have tn:=nJ n
 have lm:(bL m).length=dl m:=rfl
 have ln:(bL n).length=dl n:=rfl
 have key:Ev (fun K=>kS K (bL m) (bL n)) (Z (m/n:Nat),Z (m%n:Nat)):=by
  unfold kS
  refine Ev.bind (wH dm dn tm tn (by omega)) ?_
  rw [vm,vn]
  unfold wA
  by_cases hlt:m<n
  ·rw [if_pos (by omega)]
   have h1:=uQ false dm (by omega)
   rw [vm,Int.toNat_natCast,l4] at h1
   refine Ev.congr (g:=fun K=>(dK K false (bL m)).bind fun v8=>some ((⟨false,([]:List Int)⟩:aA),v8)) ?_ (fun K=>rfl)
   refine Ev.bind h1 ?_
   rw [Nat.div_eq_of_lt hlt,Nat.mod_eq_of_lt hlt]
   have:Z ((0:Nat):Int)=⟨false,[]⟩:=by rw [←l4];rfl
   rw [this]
   exact Ev.pure _
  ·have hc:decide ((if(m:Int)<n then(-1:Int) else if(n:Int)<m then 1 else 0)<0)=false:=by
    rw [if_neg (by omega)]
    split<;>rfl
   simp only [hc,cP]
   have hle:dl n≤dl m:=n9 (by omega)
   have hn0:dl n≠0:=by rw [Ne,tL];omega
   by_cases h1:dl n=1
   ·have e1:(((bL n).length:Int)==1)=true:=qT (by omega)
    obtain⟨a1,a2⟩:=y8 h1
    have e2:=cE (xs:=bL n) (i:=0) (by omega)
    simp only [Int.natCast_zero] at e2
    rw [a1] at e2
    obtain⟨q,r,g1,g2,g3,g4,g5⟩:=aDu (a:=bL m) (b:=(n:Int)) dm (by omega) (by omega) (by omega)
    rw [vm] at g3 g4
    have h2:=uQ false g2 (by omega)
    rw [g3,l4] at h2
    simp only [e1,cU,e2,oB]
    refine Ev.bind g5 (Ev.bind h2 ?_)
    have hr:r=((m%n:Nat):Int):=by rw [g4];simp
    have hrlt:m%n<n:=Nat.mod_lt _ hn
    rw [hr,aKn (by omega),p6 false (by omega),oB,l4]
    have:((((m:Int)/n).toNat:Nat):Int)=((m/n:Nat):Int):=by rw [←Int.natCast_ediv,Int.toNat_natCast]
    rw [this]
    exact Ev.pure _
   ·have e1:(((bL n).length:Int)==1)=false:=qF (by omega)
    obtain⟨q,r,g1,g2,g3,g4,g5,g6,g7⟩:=aI2 dm dn tn (by omega) (by omega) (by omega)
    rw [vm,vn] at g5 g6
    have h2:=uQ false g3 (by omega)
    have h3:=uQ false g4 (by omega)
    rw [g5,l4] at h2
    rw [g6,l4] at h3
    simp only [e1,cP]
    refine Ev.bind g7 (Ev.bind h2 (Ev.bind h3 ?_))
    have e3:((((m:Int)/n).toNat:Nat):Int)=((m/n:Nat):Int):=by rw [←Int.natCast_ediv,Int.toNat_natCast]
    have e4:((((m:Int)%n).toNat:Nat):Int)=((m%n:Nat):Int):=by rw [←Int.natCast_emod,Int.toNat_natCast]
    rw [e3,e4]
    exact Ev.pure _
 unfold lJ
 rw [zR dm,zR dn]
 simp only [oB]
 by_cases h1:(bL m).length≤2
 ·by_cases h2:(bL n).length≤2
  ·rw [if_pos h1,if_pos h2]
   simp only [cU,vm,vn]
   have b1:=vF h1
   have hd:=Nat.div_le_self m n
   have hm:=Nat.mod_le m n
   have e1:xP (m:Int) (n:Int)=some ((m/n:Nat):Int):=by rw [tV (by omega) (by omega) (by omega)];simp
   have e2:wV (m:Int) (n:Int)=some ((m%n:Nat):Int):=by rw [qI (by omega) (by omega)];simp
   simp only [e1,e2,oB]
   rw [aKn (by omega),aKn (by omega),p6 false (by omega),p6 false (by omega)]
   simp only [oB,l4]
   exact Ev.pure _
  ·rw [if_pos h1,if_neg h2]
   simp only [cU,cP]
   exact key
 ·rw [if_neg h1]
  simp only [cP]
  exact key
theorem aHn {x y:Int} (hy:y≠0) (hx:dl x.natAbs≤40000000000) (hy2:dl y.natAbs≤40000000000):Ev (fun K=>qD K (Z x) (Z y)) (Z (x/y),Z (x%y)):=by
 have hyl:dl y.natAbs≠0:=by rw [Ne,tL];omega
 have e1:(((bL y.natAbs).length:Int)==0)=false:=qF (by show(dl y.natAbs:Int)≠0;omega)
 have hm0:=Nat.mod_lt x.natAbs (show 0<y.natAbs by omega)
 have hd:∀n:Nat,((Z (n:Int)).d.length:Int)=dl n:=fun n=>by rw [pG];simp
 have hdm:=aF7 x.natAbs y.natAbs
 have hmm:=aD9 x.natAbs y.natAbs
 have hnd:=Nat.div_add_mod x.natAbs y.natAbs
 have bV:∀(q r:Nat),((if(x<0)↔(y<0) then(q:Int) else -(q:Int))=x/y)→((r:Int)=x%y)→Ev (fun K=>kA K (Z x) (Z y) (Z r) (Z q)) (Z (x/y),Z (x%y)):=by
  intro q r hq hr
  refine Ev.of fun K=>?_
  unfold kA
  rw [tE,tE,←hq,←hr]
  by_cases hs:(x<0)↔(y<0)
  ·have e:(decide (x<0) != decide (y<0))=false:=by simp [hs]
   rw [e,cP,if_pos hs]
   have:(Z (q:Int))=⟨false,(Z (q:Int)).d⟩:=by unfold Z;simp
   rw [←this]
  ·have e:(decide (x<0) != decide (y<0))=true:=by simp;exact hs
   rw [e,cU,if_neg hs]
   congr 2
   unfold Z
   rw [Int.natAbs_neg]
   congr 1
   have:(bL (q:Int).natAbs).length=dl q:=by simp [dl]
   rw [this]
   by_cases h0:q=0
   ·subst h0;rw [uF];rfl
   ·have:dl q≠0:=by rw [Ne,tL];exact h0
    rw [dT (by omega),dT (by omega)]
 have eT:∀z:Int,(z.natAbs:Int)=z∨(z.natAbs:Int)=-z:=fun z=>by omega
 unfold qD
 simp only [e1,cP,Z_d,tE]
 refine Ev.bind (aCN (m:=x.natAbs) (n:=y.natAbs) (by omega) (by omega)) ?_
 have c1:(x.natAbs:Int)=(y.natAbs:Int)*((x.natAbs/y.natAbs:Nat):Int)+((x.natAbs%y.natAbs:Nat):Int):=by
  rw [←Int.natCast_mul,←Int.natCast_add,hnd]
 generalize hq:x.natAbs/y.natAbs=q at *
 generalize hr:x.natAbs%y.natAbs=r at *
 have uniq:∀a b:Int,x=y*a+b→0≤b→b<y.natAbs→x/y=a∧x%y=b:=by
  intro a b h1 h2 h3
  have hm:x%y=b:=by
   rw [h1,Int.add_comm,Int.add_mul_emod_self_left]
   by_cases hy0:y<0
   ·have:b%y=b% -y:=by rw [Int.emod_neg]
    rw [this,Int.emod_eq_of_lt h2 (by omega)]
   ·exact Int.emod_eq_of_lt h2 (by omega)
  refine⟨?_,hm⟩
  have h4:=Int.mul_ediv_add_emod x y
  exact Int.eq_of_mul_eq_mul_left hy (by omega)
 by_cases hx0:x<0
 ·have e2:decide (x<0)=true:=dT hx0
  simp only [e2,cU]
  by_cases hr0:r=0
  ·subst hr0
   have e3:decide (0<((Z ((0:Nat):Int)).d.length:Int))=false:=by rw [Z_d,show((0:Nat):Int).natAbs=0 from rfl,wI];rfl
   simp only [e3,cP]
   refine bV q 0 ?_ ?_
   ·by_cases hy0:y<0
    ·rw [if_pos (by simp [hx0,hy0])]
     refine((uniq q 0 ?_ (by omega) (by omega)).1).symm
     rw [show(y.natAbs:Int)=-y by omega,show(x.natAbs:Int)=-x by omega] at c1
     rw [Int.neg_mul] at c1;omega
    ·rw [if_neg (by simp [hx0,hy0])]
     refine((uniq (-q) 0 ?_ (by omega) (by omega)).1).symm
     rw [show(y.natAbs:Int)=y by omega,show(x.natAbs:Int)=-x by omega] at c1
     rw [Int.mul_neg];omega
   ·by_cases hy0:y<0
    ·refine((uniq q 0 ?_ (by omega) (by omega)).2).symm
     rw [show(y.natAbs:Int)=-y by omega,show(x.natAbs:Int)=-x by omega] at c1
     rw [Int.neg_mul] at c1;omega
    ·refine((uniq (-q) 0 ?_ (by omega) (by omega)).2).symm
     rw [show(y.natAbs:Int)=y by omega,show(x.natAbs:Int)=-x by omega] at c1
     rw [Int.mul_neg];omega
  ·have hrl:dl r≠0:=by rw [Ne,tL];exact hr0
   have e3:decide (0<((Z (r:Int)).d.length:Int))=true:=dT (by rw [pG];simp only [Int.natAbs_natCast];omega)
   simp only [e3,cU]
   simp only [Z_d,Int.natAbs_natCast]
   have d1:jZ [1]:=jZ.nil.cons (by omega) (by omega)
   obtain⟨p,p1,p2,p3,p4⟩:=aFx (bN q) d1 (by show dl q≤_;omega) (by simp)
   rw [dJ,vD1] at p3
   have o1:=uQ false p1 (by have:(bL q).length=dl q:=rfl;simp at p2;omega)
   rw [p3,l4] at o1
   obtain⟨s,s1,s2,s3,s4⟩:=aBO (bN y.natAbs) (bN r) (n9 (by omega)) (by rw [dJ,dJ];omega) (by show dl _≤_;omega)
   rw [dJ,dJ] at s3
   have o2:=uQ false s2 (by rw [s1];show dl _≤_;omega)
   rw [s3,l4] at o2
   refine Ev.bind p4 (Ev.bind o1 (Ev.bind s4 (Ev.bind o2 ?_)))
   refine bV _ _ ?_ ?_
   ·by_cases hy0:y<0
    ·rw [if_pos (by simp [hx0,hy0])]
     refine((uniq (q+1) (y.natAbs-r) ?_ (by omega) (by omega)).1).symm▸(by omega)
     rw [show(y.natAbs:Int)=-y by omega,show(x.natAbs:Int)=-x by omega] at c1
     rw [Int.neg_mul] at c1;rw [Int.mul_add];omega
    ·rw [if_neg (by simp [hx0,hy0])]
     refine((uniq (-(q+1)) (y.natAbs-r) ?_ (by omega) (by omega)).1).symm▸(by omega)
     rw [show(y.natAbs:Int)=y by omega,show(x.natAbs:Int)=-x by omega] at c1
     rw [Int.mul_neg,Int.mul_add];omega
   ·by_cases hy0:y<0
    ·refine((uniq (q+1) (y.natAbs-r) ?_ (by omega) (by omega)).2).symm▸(by omega)
     rw [show(y.natAbs:Int)=-y by omega,show(x.natAbs:Int)=-x by omega] at c1
     rw [Int.neg_mul] at c1;rw [Int.mul_add];omega
    ·refine((uniq (-(q+1)) (y.natAbs-r) ?_ (by omega) (by omega)).2).symm▸(by omega)
     rw [show(y.natAbs:Int)=y by omega,show(x.natAbs:Int)=-x by omega] at c1
     rw [Int.mul_neg,Int.mul_add];omega
 ·have e2:decide (x<0)=false:=dF hx0
  simp only [e2,cP]
  refine bV q r ?_ ?_
  ·by_cases hy0:y<0
   ·rw [if_neg (by simp [hx0,hy0])]
    refine((uniq (-q) r ?_ (by omega) (by omega)).1).symm
    rw [show(y.natAbs:Int)=-y by omega,show(x.natAbs:Int)=x by omega] at c1
    rw [Int.neg_mul] at c1;rw [Int.mul_neg];omega
   ·rw [if_pos (by simp [hx0,hy0])]
    refine((uniq q r ?_ (by omega) (by omega)).1).symm
    rw [show(y.natAbs:Int)=y by omega,show(x.natAbs:Int)=x by omega] at c1
    omega
  ·by_cases hy0:y<0
   ·refine((uniq (-q) r ?_ (by omega) (by omega)).2).symm
    rw [show(y.natAbs:Int)=-y by omega,show(x.natAbs:Int)=x by omega] at c1
    rw [Int.neg_mul] at c1;rw [Int.mul_neg];omega
   ·refine((uniq q r ?_ (by omega) (by omega)).2).symm
    rw [show(y.natAbs:Int)=y by omega,show(x.natAbs:Int)=x by omega] at c1
    omega
theorem aKu (K:Nat):∀(n m k:Nat),n<k→iS K k (m:Int) (n:Int)=some ((Nat.gcd m n:Nat):Int):=by
 intro n
 induction n using Nat.strongRecOn with
 |_ n ih=>
  intro m k hk
  obtain⟨k',rfl,_⟩:=bI hk
  by_cases h:n=0
  ·subst h
   simp [iS]
  ·have e1:decide (0<(n:Int))=true:=dT (by omega)
   have e2:wV (m:Int) (n:Int)=some ((m%n:Nat):Int):=by rw [qI (by omega) (by omega)];simp
   simp only [iS,e1,cU,e2,oB]
   have hlt:=Nat.mod_lt m (show 0<n by omega)
   rw [ih (m%n) hlt n k' (by omega)]
   congr 2
   rw [Nat.gcd_comm m n,Nat.gcd_rec n m,Nat.gcd_comm]
theorem aKr:∀(n m:Nat),dl m≤60000000000→dl n≤60000000000→∃r,sQ (fun K k=>gJ K k (Z (m:Int)) (Z (n:Int))) r∧(r=.ret (Z (Nat.gcd m n:Nat))∨r=.go (Z (Nat.gcd m n:Nat))):=by
 intro n
 induction n using Nat.strongRecOn with
 |_ n ih=>
  intro m hm hn
  by_cases h:n=0
  ·subst h
   refine⟨.go (Z m),sQ.of 1 fun K k hk=>?_,.inr (by simp)⟩
   obtain⟨k',rfl,_⟩:=bI (n:=0) hk
   have e:decide (0<((Z ((0:Nat):Int)).d.length:Int))=false:=by rw [pG,show((0:Nat):Int).natAbs=0 from rfl,uF];rfl
   simp only [gJ,e,cP]
  ·have hl:dl n≠0:=by rw [Ne,tL];exact h
   have e1:decide (0<((bL n).length:Int))=true:=dT (by show(0:Int)<dl n;omega)
   have hlt:=Nat.mod_lt m (show 0<n by omega)
   obtain⟨r,h1,h2⟩:=ih (m%n) hlt n hn (Nat.le_trans (aD9 _ _) hm)
   have hg:Nat.gcd n (m%n)=Nat.gcd m n:=by rw [Nat.gcd_comm m n,Nat.gcd_rec n m,Nat.gcd_comm]
   rw [hg] at h2
   have hdiv:=aCN (m:=m) (n:=n) (by omega) hm
   have zd:∀t:Nat,(Z (t:Int)).d=bL t:=fun t=>by rw [Z_d];simp
   by_cases hs:dl m≤2∧dl n≤2
   ·refine⟨.ret (Z (Nat.gcd m n:Nat)),sQ.step ?_,.inl rfl⟩
    have b1:=vF (n:=m) hs.1
    have b2:=vF (n:=n) hs.2
    have hgl:Nat.gcd m n≤n:=Nat.gcd_le_right m (by omega)
    simp only [gJ,e1,cU,zd,zR (bN m),zR (bN n),dJ,oB]
    rw [if_pos (show(bL m).length≤2 from hs.1),if_pos (show(bL n).length≤2 from hs.2)]
    simp only [cU]
    refine sQ.bind (x:=((Nat.gcd m n:Nat):Int)) (f:=fun K=>iS K K (m:Int) (n:Int)) ⟨n+1,fun K hK=>aKu K n m K (by omega)⟩ ?_
    simp only [qY,aKn (show Nat.gcd m n≤18446744073709551615 by omega),p6 false (show Nat.gcd m n≤18446744073709551615 by omega),oB,l4]
    exact sQ.of 0 fun _ _ _=>rfl
   ·refine⟨r,sQ.step ?_,h2⟩
    simp only [gJ,e1,cU,zd,zR (bN m),zR (bN n),dJ,oB]
    by_cases hs1:(bL m).length≤2
    ·have hs2:¬(bL n).length≤2:=fun e=>hs ⟨hs1,e⟩
     rw [if_pos hs1,if_neg hs2]
     simp only [cU,cP]
     exact sQ.bind hdiv h1
    ·rw [if_neg hs1]
     simp only [cP]
     exact sQ.bind hdiv h1
theorem aGI {x y:Int} (hx:dl x.natAbs≤60000000000) (hy:dl y.natAbs≤60000000000):Ev (fun K=>qE K (Z x) (Z y)) (Z (Int.gcd x y:Nat)):=by
 unfold qE
 have h1:=uQ false (bN x.natAbs) (by show dl _≤_;omega)
 have h2:=uQ false (bN y.natAbs) (by show dl _≤_;omega)
 rw [dJ,l4,Int.toNat_natCast] at h1 h2
 simp only [Z_d]
 refine Ev.bind h1 (Ev.bind h2 ?_)
 obtain⟨r,h3,h4⟩:=aKr y.natAbs x.natAbs hx hy
 refine Ev.bind h3.ev ?_
 rcases h4 with rfl|rfl
 ·exact Ev.pure _
 ·exact Ev.pure _
end Go.Proofs.YtolfcbpgmfbgmaaGreat
set_option linter.unusedVariables false
namespace Go.Proofs.YtolfcbpgmfbgmaaGreat
theorem aCU (u:List Int):∀(n:Nat),n≤u.length→n≤9000000000000→∃m:Nat,m≤n∧(∀i,m≤i→i<n→u.getD i 0=0)∧(m=0∨u.getD (m-1) 0≠0)∧∀K k,n<k→d9 K u k n=some (m:Int)
 |0,_,_=>⟨0,Nat.le_refl _,fun i _ h=>by omega,.inl rfl,fun K k hk=>by
   obtain⟨k',rfl,_⟩:=bI hk
   simp [d9]⟩
 |n+1,h,hL=>by
  have e1:aO (((n+1:Nat):Int)-1)=some (n:Int):=wB (m:=0) (by omega) (by omega)
  have e2:decide (0<((n+1:Nat):Int))=true:=dT (by omega)
  have e0:max (n:Int) 0=(n:Int):=by omega
  have e3:=cE (xs:=u) (i:=n) (by omega)
  by_cases h0:u.getD n 0=0
  ·obtain⟨m,h1,h2,h3,h4⟩:=aCU u n (by omega) (by omega)
   refine⟨m,by omega,fun i a b=>?_,h3,fun K k hk=>?_⟩
   ·by_cases e:i=n
    ·subst e;exact h0
    ·exact h2 i a (by omega)
   ·obtain⟨k',rfl,hk'⟩:=bI hk
    simp only [d9,e0,e1,e2,e3,qT h0,cU,oB]
    exact h4 K k' (by omega)
  ·refine⟨n+1,by omega,fun i a b=>by omega,.inr (by simpa using h0),fun K k hk=>?_⟩
   obtain⟨k',rfl,hk'⟩:=bI hk
   simp only [d9,e0,e1,e2,e3,qF h0,cU,cP,oB]
theorem gU (neg:Bool) {u:List Int} (hd:jZ u) (hL:u.length≤9000000000000):Ev (fun K=>aT K neg u) (mkG neg (vD u).toNat):=by
 obtain⟨m,h1,h2,h3,h4⟩:=aCU u u.length (Nat.le_refl _) hL
 obtain⟨h5,h6⟩:=aNT hd h1 h2 h3
 have hn:=hd.nonneg
 refine⟨u.length+1,fun K hK=>?_⟩
 simp only [aT,h4 K K (by omega),oB,l9]
 unfold mkG
 by_cases h0:m=0
 ·rw [qT (by omega),cU,if_pos (by have:=h6.1 h0;omega)]
 ·rw [qF (by omega),cP,aEN h1,oB,if_neg (by intro h;exact h0 (h6.2 (by omega))),h5]
theorem aMd {u:List Int} {x:Int} (h:u.length≤60000000000):sK u [x]=some (u++[x]):=aDQ (by simp;omega)
theorem jZ.snoc {u:List Int} {x:Int} (h:jZ u) (h0:0≤x) (h1:x<1000000000):jZ (u++[x]):=fun i=>by
 rcases Nat.lt_trichotomy i u.length with h2|h2|h2
 ·rw [aFu h2];exact h i
 ·subst h2;rw [aDr];exact⟨h0,h1⟩
 ·rw [sN (by simp;omega)];omega
theorem aJ8:∀(n:Nat) (neg:Bool) (u:List Int),n≤9223372036854775808→(neg=false→n≤9223372036854775807)→jZ u→u.length+n≤30000000000000000000→u.length+dl n≤50→∃r,jZ r∧r.length≤u.length+dl n∧vD r=vD u+n*PB u.length∧∀K k,n<k→cT K k u (if neg then -(n:Int) else n)=some r:=by
 intro n
 induction n using Nat.strongRecOn with
 |_ n ih=>
  intro neg u h1 h2 hu h3 h4
  by_cases h0:n=0
  ·subst h0
   refine⟨u,hu,by omega,by simp,fun K k hk=>?_⟩
   obtain⟨k',rfl,_⟩:=bI hk
   cases neg<;>simp [cT]
  ·have hdl:dl n=dl (n/1000000000)+1:=by unfold dl;rw [tJ h0];rfl
   obtain⟨r,g1,g2,g3,g4⟩:=ih (n/1000000000) (by omega) neg (u++[((n%1000000000:Nat):Int)]) (by omega) (fun e=>by have:=h2 e;omega) (hu.snoc (by omega) (by omega)) (by simp;omega) (by simp;omega)
   have hul:(u++[((n%1000000000:Nat):Int)]).length=u.length+1:=by simp
   rw [hul] at g2 g3
   refine⟨r,g1,by omega,?_,fun K k hk=>?_⟩
   ·rw [g3]
    unfold vD
    rw [hul,aJk]
    simp only [PB]
    have:(n:Int)=(n%1000000000:Nat)+((n/1000000000:Nat):Int)*1000000000:=by omega
    rw [show(n:Int)*PB u.length=((n%1000000000:Nat)+((n/1000000000:Nat):Int)*1000000000)*PB u.length by rw [←this]]
    grind
   ·obtain⟨k',rfl,_⟩:=bI hk
    have a1:∀x:Int,sK u [x]=some (u++[x]):=fun x=>aMd (by omega)
    cases neg with
    |false=>
     have g4':=g4 K k' (by omega)
     simp only [Bool.false_eq_true,if_false] at g4' ⊢
     have:=h2 rfl
     have e1:((n:Int) != 0)=true:=nT (by omega)
     have e2:wV (n:Int) 1000000000=some ((n%1000000000:Nat):Int):=by rw [qI (by omega) (by omega)];simp
     have e3:xP (n:Int) 1000000000=some ((n/1000000000:Nat):Int):=by rw [tV (by omega) (by omega) (by omega)];simp
     have e4:decide (((n%1000000000:Nat):Int)<0)=false:=dF (by omega)
     simp only [cT,e1,e2,e3,e4,a1,cU,cP,oB]
     exact g4'
    |true=>
     have g4':=g4 K k' (by omega)
     simp only [if_true] at g4' ⊢
     have e1:(-(n:Int) != 0)=true:=nT (by omega)
     have e2:wV (-(n:Int)) 1000000000=some (-((n%1000000000:Nat):Int)):=by
      unfold wV
      rw [if_neg (by omega),Int.neg_tmod,Int.tmod_eq_emod_of_nonneg (by omega)];simp
     have e3:xP (-(n:Int)) 1000000000=some (-((n/1000000000:Nat):Int)):=by
      unfold xP
      rw [if_neg (by omega),Int.neg_tdiv,Int.tdiv_eq_ediv_of_nonneg (by omega),show(n:Int)/1000000000=((n/1000000000:Nat):Int) by simp]
      exact nA (by omega)
     by_cases hz:n%1000000000=0
     ·have e4:decide (-((n%1000000000:Nat):Int)<0)=false:=dF (by omega)
      simp only [cT,e1,e2,e3,e4,a1,cU,cP,oB]
      rw [hz] at g4' ⊢
      exact g4'
     ·have e4:decide (-((n%1000000000:Nat):Int)<0)=true:=dT (by omega)
      have e5:aO (- -((n%1000000000:Nat):Int))=some ((n%1000000000:Nat):Int):=by rw [Int.neg_neg];exact nA (by omega)
      simp only [cT,e1,e2,e3,e4,e5,a1,cU,oB]
      exact g4'
theorem xS {n:Int} (h:-9223372036854775808≤n∧n≤9223372036854775807):Ev (fun K=>fG K n) (Z n):=by
 have hl:dl n.natAbs≤3:=aAh (by
  have:PB 3=1000000000000000000000000000:=by decide
  omega)
 obtain⟨r,h1,h2,h3,h4⟩:=aJ8 n.natAbs (decide (n<0)) [] (by omega) (by simp;omega) jZ.nil (by simp;omega) (by simp;omega)
 have e:(if decide (n<0)=true then -(n.natAbs:Int) else(n.natAbs:Int))=n:=by
  by_cases h0:n<0
  ·rw [if_pos (by simpa using h0)];omega
  ·rw [if_neg (by simpa using h0)];omega
 rw [e] at h4
 have h5:=gU (decide (n<0)) h1 (by simp at h2;omega)
 rw [h3,vD0] at h5
 simp only [List.length_nil,PB,Int.mul_one,Int.zero_add,Int.toNat_natCast] at h5
 rw [rN,e] at h5
 unfold fG
 refine Ev.bind (f:=fun K=>cT K K [] n) ⟨n.natAbs+1,fun K hK=>h4 K K (by omega)⟩ ?_
 simp only [oJ]
 exact Ev.bind h5 (Ev.pure _)
theorem sY (u:List Int) (i:Nat):cD u (i:Int)=some (u.getD i 0):=by
 unfold cD
 by_cases h:i<u.length
 ·rw [dT (by omega),cU,cE h,oB]
 ·rw [dF (by omega),cP,sN (by omega)]
theorem aMI {u:List Int} {x:Int} {i:Nat} (h:u.length=i):W (u++[x]) 0 (i+1)=W u 0 i+x*PB i:=by subst h;exact aJk
theorem aHX {a b:List Int} (ha:jZ a) (hb:jZ b) {M:Nat} (hL:a.length≤M) (hM:b.length≤M) (hMM:M≤50000000000):∀(t i:Nat) (out:List Int) (c:Int),M+1-i=t→i≤M+1→out.length=i→jZ out→0≤c→c≤1→(i=M+1→c=0)→W out 0 i+c*PB i=W a 0 i+W b 0 i→
  ∃r,r.length≤M+1∧jZ r∧vD r=vD a+vD b∧∀K k,t<k→bM K a b k out c (i:Int)=some r:=by
 intro t
 induction t with
 |zero=>
  intro i out c ht hi ho hD hc0 hc1 hc hI
  have hii:i=M+1:=by omega
  have:=hc hii
  subst this
  refine⟨out,by omega,hD,?_,fun K k hk=>?_⟩
  ·rw [x0 (u:=a) (by omega),x0 (u:=b) (by omega)] at hI
   unfold vD
   rw [ho];omega
  ·obtain⟨k',rfl,_⟩:=bI hk
   have e1:decide ((i:Int)<(a.length:Int))=false:=dF (by omega)
   have e2:decide ((i:Int)<(b.length:Int))=false:=dF (by omega)
   have e3:decide ((0:Int)<0)=false:=dF (by omega)
   simp only [bM,e1,e2,e3,cP]
 |succ t ih=>
  intro i out c ht hi ho hD hc0 hc1 hc hI
  have ha':=ha i
  have hb':=hb i
  have f1:aO (a.getD i 0+b.getD i 0)=some (a.getD i 0+b.getD i 0):=nA (by omega)
  have f2:aO (a.getD i 0+b.getD i 0+c)=some (a.getD i 0+b.getD i 0+c):=nA (by omega)
  have f3:wV (a.getD i 0+b.getD i 0+c) 1000000000=some ((a.getD i 0+b.getD i 0+c)%1000000000):=qI (by omega) (by omega)
  have f4:xP (a.getD i 0+b.getD i 0+c) 1000000000=some ((a.getD i 0+b.getD i 0+c)/1000000000):=tV (by omega) (by omega) (by omega)
  have f5:aO ((i:Int)+1)=some ((i+1:Nat):Int):=wB (m:=0) (by omega) (by omega)
  have f6:∀x:Int,sK out [x]=some (out++[x]):=fun x=>aMd (by omega)
  have go:(i=M→a.getD i 0=0∧b.getD i 0=0)→i≤M→∃r,r.length≤M+1∧jZ r∧vD r=vD a+vD b∧∀K k,t<k→bM K a b k (out++[(a.getD i 0+b.getD i 0+c)%1000000000]) ((a.getD i 0+b.getD i 0+c)/1000000000) ((i+1:Nat):Int)=some r:=by
   intro hlast hile
   refine ih (i+1) _ _ (by omega) (by omega) (by simp;omega) (hD.snoc (by omega) (by omega)) (by omega) (by omega) (fun e=>?_) ?_
   ·have:=hlast (by omega);omega
   ·rw [aMI ho,cV,cV,Nat.zero_add]
    simp only [PB]
    have hd:(a.getD i 0+b.getD i 0+c)%1000000000+1000000000*((a.getD i 0+b.getD i 0+c)/1000000000)=a.getD i 0+b.getD i 0+c:=by omega
    grind
  by_cases h1:i<a.length
  ·obtain⟨r,g1,g2,g3,g4⟩:=go (fun e=>by omega) (by omega)
   refine⟨r,g1,g2,g3,fun K k hk=>?_⟩
   obtain⟨k',rfl,_⟩:=bI hk
   simp only [bM,dT (show(i:Int)<(a.length:Int) by omega),sY,f1,f2,f3,f4,f5,f6,cU,oB]
   exact g4 K k' (Nat.lt_of_succ_lt_succ hk)
  ·by_cases h2:i<b.length
   ·obtain⟨r,g1,g2,g3,g4⟩:=go (fun e=>by omega) (by omega)
    refine⟨r,g1,g2,g3,fun K k hk=>?_⟩
    obtain⟨k',rfl,_⟩:=bI hk
    simp only [bM,dF (show¬(i:Int)<(a.length:Int) by omega),dT (show(i:Int)<(b.length:Int) by omega),sY,f1,f2,f3,f4,f5,f6,cU,cP,oB]
    exact g4 K k' (Nat.lt_of_succ_lt_succ hk)
   ·by_cases h3:0<c
    ·obtain⟨r,g1,g2,g3,g4⟩:=go (fun e=>⟨sN (by omega),sN (by omega)⟩) (by
      rcases Nat.lt_or_ge (M) i with h|h
      ·have:=hc (by omega);omega
      ·exact h)
     refine⟨r,g1,g2,g3,fun K k hk=>?_⟩
     obtain⟨k',rfl,_⟩:=bI hk
     simp only [bM,dF (show¬(i:Int)<(a.length:Int) by omega),dF (show¬(i:Int)<(b.length:Int) by omega),dT h3,sY,f1,f2,f3,f4,f5,f6,cU,cP,oB]
     exact g4 K k' (Nat.lt_of_succ_lt_succ hk)
    ·refine⟨out,by omega,hD,?_,fun K k hk=>?_⟩
     ·rw [x0 (u:=a) (by omega),x0 (u:=b) (by omega)] at hI
      have:c=0:=by omega
      subst this
      unfold vD
      rw [ho];omega
     ·obtain⟨k',rfl,_⟩:=bI hk
      simp only [bM,dF (show¬(i:Int)<(a.length:Int) by omega),dF (show¬(i:Int)<(b.length:Int) by omega),dF h3,cP]
theorem aHQ {a b:List Int} (ha:jZ a) (hb:jZ b) (hL:a.length≤50000000000) (hM:b.length≤50000000000):∃r,jZ r∧r.length≤max a.length b.length+1∧vD r=vD a+vD b∧Ev (fun K=>nL K a b) r:=by
 obtain⟨r,h1,h2,h3,h4⟩:=aHX (M:=max a.length b.length) ha hb (by omega) (by omega) (by omega) _ 0 [] 0 rfl (by omega) rfl jZ.nil (by omega) (by omega) (by omega) (by simp [W])
 refine⟨r,h2,h1,h3,⟨max a.length b.length+2,fun K hK=>?_⟩⟩
 have:=h4 K K (by omega)
 simp only [Int.natCast_zero] at this
 simp only [nL,this,oB,mX]
theorem aAI {a b:List Int} (ha:jZ a) (hb:jZ b) (hbl:b.length≤a.length) (hv:vD b≤vD a) (hL:a.length≤50000000000):∀(t i:Nat) (out:List Int) (c:Int),i+t=a.length→out.length=i→jZ out→0≤c→c≤1→W out 0 i-c*PB i=W a 0 i-W b 0 i→
  ∃r,r.length=a.length∧jZ r∧vD r=vD a-vD b∧∀K k,t<k→cY K a b k out c (i:Int)=some r
 |0,i,out,c,hi,ho,hD,hc0,hc1,hI=>by
  have:i=a.length:=by omega
  subst this
  refine⟨out,ho,hD,?_,fun K k hk=>?_⟩
  ·rw [x0 (u:=b) hbl] at hI
   have hlt:=hD.lt
   unfold vD at *
   rw [ho] at hlt ⊢
   have:c=0:=by
    rcases Int.lt_or_le 0 c with h|h
    ·have:c=1:=by omega
     subst this
     omega
    ·omega
   subst this
   omega
  ·obtain⟨k',rfl,_⟩:=bI hk
   simp [cY]
 |t+1,i,out,c,hi,ho,hD,hc0,hc1,hI=>by
  have ha':=ha i
  have hb':=hb i
  have e1:decide ((i:Int)<(a.length:Int))=true:=dT (by omega)
  have e2:=cE (xs:=a) (i:=i) (by omega)
  have f1:aO (a.getD i 0-b.getD i 0)=some (a.getD i 0-b.getD i 0):=nA (by omega)
  have f2:aO (a.getD i 0-b.getD i 0-c)=some (a.getD i 0-b.getD i 0-c):=nA (by omega)
  have f5:aO ((i:Int)+1)=some ((i+1:Nat):Int):=wB (m:=0) (by omega) (by omega)
  have f6:∀x:Int,sK out [x]=some (out++[x]):=fun x=>aMd (by omega)
  by_cases hn:a.getD i 0-b.getD i 0-c<0
  ·have f3:aO (a.getD i 0-b.getD i 0-c+1000000000)=some (a.getD i 0-b.getD i 0-c+1000000000):=nA (by omega)
   obtain⟨r,g1,g2,g3,g4⟩:=aAI ha hb hbl hv hL t (i+1) (out++[a.getD i 0-b.getD i 0-c+1000000000]) 1 (by omega) (by simp;omega) (hD.snoc (by omega) (by omega)) (by omega) (by omega) (by
    rw [aMI ho,cV,cV,Nat.zero_add]
    simp only [PB]
    grind)
   refine⟨r,g1,g2,g3,fun K k hk=>?_⟩
   obtain⟨k',rfl,_⟩:=bI hk
   simp only [cY,e1,e2,sY,f1,f2,f3,f5,f6,dT hn,cU,oB]
   exact g4 K k' (by omega)
  ·obtain⟨r,g1,g2,g3,g4⟩:=aAI ha hb hbl hv hL t (i+1) (out++[a.getD i 0-b.getD i 0-c]) 0 (by omega) (by simp;omega) (hD.snoc (by omega) (by omega)) (by omega) (by omega) (by
    rw [aMI ho,cV,cV,Nat.zero_add]
    simp only [PB]
    grind)
   refine⟨r,g1,g2,g3,fun K k hk=>?_⟩
   obtain⟨k',rfl,_⟩:=bI hk
   simp only [cY,e1,e2,sY,f1,f2,f5,f6,dF hn,cU,cP,oB]
   exact g4 K k' (by omega)
theorem xU {a b:List Int} (ha:jZ a) (hb:jZ b) (hbl:b.length≤a.length) (hv:vD b≤vD a) (hL:a.length≤50000000000):
  ∃r,r.length=a.length∧jZ r∧vD r=vD a-vD b∧Ev (fun K=>eA K a b) r:=by
 obtain⟨r,g1,g2,g3,g4⟩:=aAI ha hb hbl hv hL a.length 0 [] 0 (by omega) rfl jZ.nil (by omega) (by omega) (by simp [W])
 refine⟨r,g1,g2,g3,⟨a.length+1,fun K hK=>?_⟩⟩
 have h:=g4 K K (by omega)
 simp only [Int.natCast_zero] at h
 simp only [eA,oB,h,mB]
theorem aAU {u v:List Int} (hu:jZ u) (hv:jZ v) (hl:u.length=v.length) (hL:u.length≤9000000000000):∀(j:Nat),j≤u.length→∀K k,j<k→
  cJ K u v k ((j:Int)-1)=some (if W u 0 j<W v 0 j then .ret (-1) else if W v 0 j<W u 0 j then .ret 1 else .go ())
 |0,_,K,k,hk=>by
  obtain⟨k',rfl,_⟩:=bI hk
  simp [cJ,W]
 |j+1,hj,K,k,hk=>by
  obtain⟨k',rfl,hk'⟩:=bI hk
  have e0:((j+1:Nat):Int)-1=(j:Int):=by omega
  have e1:decide (0≤(j:Int))=true:=dT (by omega)
  have e2:=cE (xs:=u) (i:=j) (by omega)
  have e3:=cE (xs:=v) (i:=j) (by omega)
  rw [e0]
  rcases Int.lt_trichotomy (u.getD j 0) (v.getD j 0) with h|h|h
  ·have:=aGD hu hv h
   simp only [cJ,e1,e2,e3,dT h,cU,oB]
   rw [if_pos this]
  ·have e5:aO ((j:Int)-1)=some ((j:Int)-1):=nA (by omega)
   have ih:=aAU hu hv hl hL j (by omega) K k' (by omega)
   have c1:(W u 0 (j+1)<W v 0 (j+1))↔(W u 0 j<W v 0 j):=by rw [cV,cV,Nat.zero_add,h];omega
   have c2:(W v 0 (j+1)<W u 0 (j+1))↔(W v 0 j<W u 0 j):=by rw [cV,cV,Nat.zero_add,h];omega
   simp only [cJ,e1,e2,e3,dF (show¬u.getD j 0<v.getD j 0 by omega),dF (show¬v.getD j 0<u.getD j 0 by omega),e5,cU,cP,oB,c1,c2]
   exact ih
  ·have:=aGD hv hu h
   simp only [cJ,e1,e2,e3,dF (show¬u.getD j 0<v.getD j 0 by omega),dT h,cU,cP,oB]
   rw [if_neg (by omega),if_pos this]
theorem wR {u v:List Int} (hu:jZ u) (hv:jZ v) (tu:Top u) (tv:Top v) (hL:u.length≤9000000000000):Ev (fun K=>b0 K u v) (wA (vD u) (vD v)):=by
 refine⟨u.length+1,fun K hK=>?_⟩
 unfold wA
 rcases Nat.lt_trichotomy u.length v.length with h|h|h
 ·have:=aED hu hv tv h
  simp only [b0,dT (show(u.length:Int)<(v.length:Int) by omega),cU]
  rw [if_pos this]
 ·have e2:aO ((u.length:Int)-1)=some ((u.length:Int)-1):=nA (by omega)
  have e3:=aAU hu hv h hL u.length (Nat.le_refl _) K K (by omega)
  simp only [b0,dF (show¬(u.length:Int)<(v.length:Int) by omega),dF (show¬(v.length:Int)<(u.length:Int) by omega),e2,e3,cP,oB]
  unfold vD
  rw [←h]
  by_cases h1:W u 0 u.length<W v 0 u.length
  ·rw [if_pos h1,if_pos h1]
  ·rw [if_neg h1,if_neg h1]
   by_cases h2:W v 0 u.length<W u 0 u.length
   ·rw [if_pos h2,if_pos h2]
   ·rw [if_neg h2,if_neg h2];rfl
 ·have:=aED hv hu tu h
  simp only [b0,dF (show¬(u.length:Int)<(v.length:Int) by omega),dT (show(v.length:Int)<(u.length:Int) by omega),cU,cP]
  rw [if_neg (by omega),if_pos this]
theorem aCb (x:Int) (hL:dl x.natAbs≤60000000000):Ev (fun K=>kI K (Z x)) (Z (-x)):=by
 unfold kI
 have h:=gU (!decide (x<0)) (bN x.natAbs) (by show dl _≤_;omega)
 rw [dJ,Int.toNat_natCast,rN] at h
 have e:(if(!decide (x<0))=true then -(x.natAbs:Int) else(x.natAbs:Int))=-x:=by
  by_cases h0:x<0
  ·rw [dT h0];simp;omega
  ·rw [dF h0];simp;omega
 rw [e] at h
 exact Ev.bind h (Ev.pure _)
theorem aE4 {x y:Int} (hx:dl x.natAbs≤40000000000) (hy:dl y.natAbs≤40000000000):Ev (fun K=>l7 K (Z x) (Z y)) (Z (x+y)):=by
 have dx:=bN x.natAbs
 have dy:=bN y.natAbs
 have vx:=dJ x.natAbs
 have vy:=dJ y.natAbs
 have tx:=nJ x.natAbs
 have ty:=nJ y.natAbs
 have lx:(bL x.natAbs).length≤40000000000:=hx
 have ly:(bL y.natAbs).length≤40000000000:=hy
 unfold l7
 simp only [Z_d,tE]
 by_cases hs:(decide (x<0)==decide (y<0))=true
 ·simp only [hs,cU]
  obtain⟨r,h1,h2,h3,h4⟩:=aHQ dx dy (by omega) (by omega)
  have h5:=gU (decide (x<0)) h1 (by omega)
  refine Ev.bind h4 (Ev.bind h5 ?_)
  rw [rN]
  have hs':(x<0)↔(y<0):=by simpa using hs
  have:(if decide (x<0)=true then -(((vD r).toNat:Nat):Int) else(((vD r).toNat:Nat):Int))=x+y:=by
   by_cases h:x<0
   ·rw [if_pos (by simpa using h)];omega
   ·rw [if_neg (by simpa using h)];omega
  rw [this]
  exact Ev.pure _
 ·simp only [Bool.not_eq_true] at hs
  simp only [hs,cP]
  have hs':¬((x<0)↔(y<0)):=by simpa using hs
  refine Ev.bind (wR dx dy tx ty (by omega)) ?_
  rw [vx,vy]
  unfold wA
  by_cases hlt:x.natAbs<y.natAbs
  ·have hle:(bL x.natAbs).length≤(bL y.natAbs).length:=n9 (by omega)
   obtain⟨r,h1,h2,h3,h4⟩:=xU dy dx hle (by omega) (by omega)
   have h5:=gU (decide (y<0)) h2 (by omega)
   rw [if_pos (by omega)]
   refine Ev.congr (g:=fun K=>(eA K (bL y.natAbs) (bL x.natAbs)).bind fun v16=>(aT K (decide (y<0)) v16).bind fun v18=>some v18) ?_ (fun K=>rfl)
   refine Ev.bind h4 (Ev.bind h5 ?_)
   rw [rN]
   have:(if decide (y<0)=true then -(((vD r).toNat:Nat):Int) else(((vD r).toNat:Nat):Int))=x+y:=by
    by_cases h:y<0
    ·rw [if_pos (by simpa using h)];omega
    ·rw [if_neg (by simpa using h)];omega
   rw [this]
   exact Ev.pure _
  ·have hle:(bL y.natAbs).length≤(bL x.natAbs).length:=n9 (by omega)
   obtain⟨r,h1,h2,h3,h4⟩:=xU dx dy hle (by omega) (by omega)
   have h5:=gU (decide (x<0)) h2 (by omega)
   have hc:decide ((if(x.natAbs:Int)<y.natAbs then(-1:Int) else if(y.natAbs:Int)<x.natAbs then 1 else 0)<0)=false:=by
    rw [if_neg (by omega)]
    split<;>rfl
   simp only [hc,cP]
   refine Ev.bind h4 (Ev.bind h5 ?_)
   rw [rN]
   have:(if decide (x<0)=true then -(((vD r).toNat:Nat):Int) else(((vD r).toNat:Nat):Int))=x+y:=by
    by_cases h:x<0
    ·rw [if_pos (by simpa using h)];omega
    ·rw [if_neg (by simpa using h)];omega
   rw [this]
   exact Ev.pure _
theorem aEZ {o0:List Int} {x y:aA} {i:Nat} (ha:jZ x.d) (hb:jZ y.d) (hi:i<x.d.length) (hl:i+y.d.length≤o0.length) (hL:o0.length≤9000000000000):∀(t k:Nat) (out:List Int) (c:Int),k+t=y.d.length→aEu o0 y.d i (x.d.getD i 0) out c k→
  ∃out' c',aEu o0 y.d i (x.d.getD i 0) out' c' y.d.length∧∀K n,t<n→eZ K x y (i:Int) n out c (k:Int)=some (out',c')
 |0,k,out,c,hk,hP=>by
  have:k=y.d.length:=by omega
  subst this
  refine⟨out,c,hP,fun K n hn=>?_⟩
  obtain⟨n',rfl,_⟩:=bI hn
  simp [eZ]
 |t+1,k,out,c,hk,hP=>by
  have hf:=ha i
  obtain⟨g1,g2,g3,g4,g5,g6,g7⟩:=hP.step (by omega) hf.1 hf.2 hb
  have c0:=hP.c0
  have c1:=hP.c1
  have hlo:=hP.len
  have e0:=cE (xs:=x.d) (i:=i) hi
  have e1:decide ((k:Int)<(y.d.length:Int))=true:=dT (by omega)
  have e2:=cE (xs:=y.d) (i:=k) (by omega)
  have e3:aO ((k:Int)+1)=some ((k+1:Nat):Int):=wB (m:=0) (by omega) (by omega)
  have e4:aO ((i:Int)+(k:Int))=some ((i+k:Nat):Int):=wB (m:=0) (by omega) (by omega)
  have e5:=cE (xs:=out) (i:=i+k) (by omega)
  have e6:aO (x.d.getD i 0*y.d.getD k 0)=some (x.d.getD i 0*y.d.getD k 0):=nA (by omega)
  have e7:aO (out.getD (i+k) 0+x.d.getD i 0*y.d.getD k 0)=some (out.getD (i+k) 0+x.d.getD i 0*y.d.getD k 0):=nA (by omega)
  have e8:aO (out.getD (i+k) 0+x.d.getD i 0*y.d.getD k 0+c)=some (out.getD (i+k) 0+x.d.getD i 0*y.d.getD k 0+c):=nA (by omega)
  have e9:xP (out.getD (i+k) 0+x.d.getD i 0*y.d.getD k 0+c) 1000000000=some ((out.getD (i+k) 0+x.d.getD i 0*y.d.getD k 0+c)/1000000000):=tV (by omega) (by omega) (by omega)
  have e10:wV (out.getD (i+k) 0+x.d.getD i 0*y.d.getD k 0+c) 1000000000=some ((out.getD (i+k) 0+x.d.getD i 0*y.d.getD k 0+c)%1000000000):=qI (by omega) (by omega)
  have e12:∀z,oK out ((i+k:Nat):Int) z=some (out.set (i+k) z):=fun z=>qO (by omega)
  obtain⟨o,d,h1,h2⟩:=aEZ ha hb hi hl hL t (k+1) _ _ (by omega) g7
  refine⟨o,d,h1,fun K n hn=>?_⟩
  obtain⟨n',rfl,_⟩:=bI hn
  simp only [eZ,e0,e1,e2,e3,e4,e5,e6,e7,e8,e9,e10,e12,cU,oB]
  exact h2 K n' (by omega)
theorem aFq {x y:aA} (ha:jZ x.d) (hb:jZ y.d) (hL:x.d.length+y.d.length≤9000000000000):∀(t i:Nat) (out:List Int),i+t=x.d.length→aBz x.d y.d out i→
  ∃out',aBz x.d y.d out' x.d.length∧sQ (fun K k=>eY K x y k out (i:Int)) out'
 |0,i,out,hi,hP=>by
  have:i=x.d.length:=by omega
  subst this
  refine⟨out,hP,sQ.of 1 fun K n hn=>?_⟩
  obtain⟨n',rfl,_⟩:=bI (n:=0) hn
  simp [eY]
 |t+1,i,out,hi,hP=>by
  have hlo:=hP.len
  obtain⟨o,c,h1,h2⟩:=aEZ ha hb (by omega) (by omega) (by omega) y.d.length 0 out 0 (by omega) hP.row
  have hlo2:=h1.len
  obtain⟨r,h3,h4⟩:=aFq ha hb hL t (i+1) _ (by omega) (hP.next (by omega) h1)
  refine⟨r,h3,sQ.step ?_⟩
  have e1:decide ((i:Int)<(x.d.length:Int))=true:=dT (by omega)
  have e3:aO ((i:Int)+1)=some ((i+1:Nat):Int):=wB (m:=0) (by omega) (by omega)
  have e4:aO ((i:Int)+(y.d.length:Int))=some ((i+y.d.length:Nat):Int):=wB (m:=0) (by omega) (by omega)
  have e5:=cE (xs:=o) (i:=i+y.d.length) (by omega)
  have e6:oK o ((i+y.d.length:Nat):Int) c=some (o.set (i+y.d.length) c):=qO (by omega)
  simp only [eY,e1,cU]
  refine sQ.bind (x:=(o,c)) (f:=fun K=>eZ K x y (i:Int) K out 0 0) ⟨y.d.length+1,fun K hK=>h2 K K (by omega)⟩ ?_
  simp only [nO,e3,e4,e5,e6,oB]
  exact h4
theorem w9 {x y:Int} (hL:dl x.natAbs+dl y.natAbs≤60000000000):Ev (fun K=>fJ K (Z x) (Z y)) (Z (x*y)):=by
 have dx:=bN x.natAbs
 have dy:=bN y.natAbs
 have lx:(bL x.natAbs).length=dl x.natAbs:=rfl
 have ly:(bL y.natAbs).length=dl y.natAbs:=rfl
 obtain⟨r,h1,h2⟩:=aFq (x:=Z x) (y:=Z y) dx dy (by rw [pG,pG];omega) (Z x).d.length 0 _ (by omega) (aBz.start _ _)
 have e1:aO (((Z x).d.length:Int)+((Z y).d.length:Int))=some (((Z x).d.length+(Z y).d.length:Nat):Int):=wB (m:=0) (by omega) (by rw [pG,pG];omega)
 have e2:wK (((Z x).d.length+(Z y).d.length:Nat):Int) (0:Int)=some (List.replicate ((Z x).d.length+(Z y).d.length) 0):=xR (by rw [pG,pG];omega)
 unfold fJ
 simp only [e1,e2,oB]
 refine Ev.bind h2.ev ?_
 have h3:=gU ((Z x).neg != (Z y).neg) h1.ok (by rw [h1.len,pG,pG];omega)
 unfold nM
 refine Ev.bind h3 ?_
 have hv:vD r=x.natAbs*y.natAbs:=by
  have:=h1.val
  rw [←h1.len] at this
  have vx:=dJ x.natAbs
  have vy:=dJ y.natAbs
  unfold vD at *
  rw [this]
  show W (bL x.natAbs) 0 (bL x.natAbs).length*W (bL y.natAbs) 0 (bL y.natAbs).length=_
  rw [vx,vy]
 rw [rN,tE,tE,hv]
 have:(if(decide (x<0) != decide (y<0))=true then -((((x.natAbs:Int)*y.natAbs).toNat:Nat):Int) else((((x.natAbs:Int)*y.natAbs).toNat:Nat):Int))=x*y:=by
  have h0:0≤(x.natAbs:Int)*y.natAbs:=Int.mul_nonneg (by omega) (by omega)
  rw [Int.toNat_of_nonneg h0]
  exact aEw x y
 rw [this]
 exact Ev.pure _
end Go.Proofs.YtolfcbpgmfbgmaaGreat
set_option linter.unusedVariables false
namespace Go.Proofs.YtolfcbpgmfbgmaaGreat
theorem zU {u:List Int} (hu:jZ u) (h:u.length≤2):eS u=some (vD u):=by
 have h0:=hu 0
 have h1:=hu 1
 have d0:=sY u 0
 have d1:=sY u 1
 simp only [Int.natCast_zero,Int.natCast_one] at d0 d1
 have f1:aO (u.getD 1 0*1000000000)=some (u.getD 1 0*1000000000):=nA (by omega)
 have f2:aO (u.getD 1 0*1000000000+u.getD 0 0)=some (u.getD 1 0*1000000000+u.getD 0 0):=nA (by omega)
 simp only [eS,d0,d1,f1,f2,oB]
 have:vD u=W u 0 2:=(x0 h).symm
 rw [this,W2,Nat.zero_add]
 congr 1;omega
theorem aC7 (n:Nat):(Z (n:Int)).d=bL n:=by rw [Z_d];simp
theorem aCV (n k:Nat) (hk:k≤999999999) (hL:dl n≤40000000000):Ev (fun K=>gB K (bL n) (k:Int)) (bL (n*k)):=by
 unfold gB
 have h1:=gU false (bN n) (by show dl _≤_;omega)
 rw [dJ,Int.toNat_natCast,l4] at h1
 refine Ev.bind h1 (Ev.bind (xS (n:=(k:Int)) (by omega)) ?_)
 have hk2:dl k≤1:=aAh (by
  have:PB 1=1000000000:=by decide
  omega)
 refine Ev.bind (w9 (x:=(n:Int)) (y:=(k:Int)) (by simp;omega)) ?_
 have:(Z ((n:Int)*k)).d=bL (n*k):=by rw [←Int.natCast_mul,aC7]
 rw [this]
 exact Ev.pure _
theorem aMA (a b:Int):decide (wA a b≤0)=decide (a≤b):=by
 unfold wA
 by_cases h:a<b
 ·rw [if_pos h,dT (by omega),dT (by omega)]
 ·rw [if_neg h]
  by_cases h2:b<a
  ·rw [if_pos h2,dF (by omega),dF (by omega)]
  ·rw [if_neg h2,dT (by omega),dT (by omega)]
theorem aMk (a b:Int):decide (wA a b<0)=decide (a<b):=by
 unfold wA
 by_cases h:a<b
 ·rw [if_pos h,dT (by omega),dT h]
 ·rw [if_neg h,dF h]
  by_cases h2:b<a
  ·rw [if_pos h2];rfl
  ·rw [if_neg h2];rfl
theorem aAV {n R:Nat} (hn:0<n) (hL:dl n≤40000000000) (hR:dl R≤90000000000):∀(t lo hi:Nat),hi-lo≤t→lo≤hi→hi≤999999999→lo*n≤R→R<(hi+1)*n→sQ (fun K k=>bG K (bL n) (Z (R:Int)) k (lo:Int) (hi:Int)) ((R/n:Nat):Int):=by
 intro t
 induction t with
 |zero=>
  intro lo hi ht hle hhi h1 h2
  have:lo=hi:=by omega
  subst this
  refine sQ.of 1 fun K k hk=>?_
  obtain⟨k',rfl,_⟩:=bI (n:=0) hk
  have:R/n=lo:=Nat.div_eq_of_lt_le h1 h2
  simp only [bG,dF (show¬(lo:Int)<(lo:Int) by omega),cP,this]
 |succ t ih=>
  intro lo hi ht hle hhi h1 h2
  by_cases hlt:lo<hi
  ·refine sQ.step ?_
   have e1:aO ((lo:Int)+(hi:Int))=some ((lo+hi:Nat):Int):=wB (m:=0) (by omega) (by omega)
   have e2:aO (((lo+hi:Nat):Int)+1)=some ((lo+hi+1:Nat):Int):=wB (m:=0) (by omega) (by omega)
   have e3:xP ((lo+hi+1:Nat):Int) 2=some (((lo+hi+1)/2:Nat):Int):=by rw [tV (by omega) (by omega) (by omega)];congr 1
   obtain⟨mid,hm⟩:∃m,(lo+hi+1)/2=m:=⟨_,rfl⟩
   rw [hm] at e3
   have hm1:lo<mid:=by omega
   have hm2:mid≤hi:=by omega
   simp only [bG,dT (show(lo:Int)<(hi:Int) by omega),cU,e1,e2,e3,oB]
   refine sQ.bind (aCV n mid (by omega) hL) ?_
   have hdm:dl (n*mid)≤9000000000000:=by
    have:=aC1 n mid
    have:dl mid≤1:=aAh (by
     have:PB 1=1000000000:=by decide
     omega)
    omega
   rw [aC7]
   refine sQ.bind (wR (bN _) (bN _) (nJ _) (nJ _) hdm) ?_
   rw [dJ,dJ,aMA]
   by_cases hc:n*mid≤R
   ·have e4:decide (((n*mid:Nat):Int)≤(R:Int))=true:=dT (by omega)
    simp only [e4,cU]
    exact ih mid hi (by omega) hm2 hhi (by rw [Nat.mul_comm];exact hc) h2
   ·have e4:decide (((n*mid:Nat):Int)≤(R:Int))=false:=dF (by omega)
    have e5:aO ((mid:Int)-1)=some ((mid-1:Nat):Int):=wB (m:=0) (by omega) (by omega)
    simp only [e4,cP,e5,oB]
    refine ih lo (mid-1) (by omega) (by omega) (by omega) h1 ?_
    rw [show mid-1+1=mid by omega,Nat.mul_comm]
    omega
  ·have:lo=hi:=by omega
   subst this
   refine sQ.of 1 fun K k hk=>?_
   obtain⟨k',rfl,_⟩:=bI (n:=0) hk
   have:R/n=lo:=Nat.div_eq_of_lt_le h1 h2
   simp only [bG,dF (show¬(lo:Int)<(lo:Int) by omega),cP,this]
theorem aA1 {a:List Int} {n:Nat} (ha:jZ a) (hn:0<n) (hL:dl n≤40000000000) (hM:a.length≤40000000000):∀(j:Nat) (q:List Int) (r:Nat),j≤a.length→q.length=a.length→Dr q j (a.length-j)→r<n→W a j (a.length-j)=n*W q j (a.length-j)+r→
  ∃q' r',q'.length=a.length∧jZ q'∧r'<n∧vD a=n*vD q'+(r':Nat)∧sQ (fun K k=>aX K a (bL n) k q (bL r) ((j:Int)-1)) (q',bL r')
 |0,q,r,hj,hq,hD,hr,hI=>by
  refine⟨q,r,hq,Dr.ok (by rw [hq];simpa using hD),hr,?_,sQ.of 1 fun K k hk=>?_⟩
  ·simp only [Nat.sub_zero] at hI
   unfold vD
   rw [hq];exact hI
  ·obtain⟨k',rfl,_⟩:=bI (n:=0) hk
   simp [aX]
 |j+1,q,r,hj,hq,hD,hr,hI=>by
  have ha':=ha j
  have e0:((j+1:Nat):Int)-1=(j:Int):=by omega
  have e1:decide (0≤(j:Int))=true:=dT (by omega)
  have e2:=cE (xs:=a) (i:=j) (by omega)
  have e3:aO ((j:Int)-1)=some ((j:Int)-1):=nA (by omega)
  have e4:=cE (xs:=q) (i:=j) (by omega)
  have e5:∀v,oK q (j:Int) v=some (q.set j v):=fun v=>qO (by omega)
  have hrl:dl r≤dl n:=n9 (by omega)
  have hrl':(bL r).length=dl r:=rfl
  have e6:sK [a.getD j 0] (bL r)=some (a.getD j 0::bL r):=aDQ (by simp;omega)
  obtain⟨R,hR⟩:∃R:Nat,(R:Int)=a.getD j 0+1000000000*r:=⟨(a.getD j 0+1000000000*r).toNat,by omega⟩
  have hd:jZ (a.getD j 0::bL r):=(bN r).cons ha'.1 ha'.2
  have hv:vD (a.getD j 0::bL r)=R:=by
   rw [hR]
   have:vD (a.getD j 0::bL r)=a.getD j 0+1000000000*vD (bL r):=aFX _ _
   rw [this,dJ]
  have h1:=gU false hd (by simp;omega)
  rw [hv,Int.toNat_natCast,l4] at h1
  have hRn:R<1000000000*n:=by
   have:(R:Int)<1000000000*n:=by omega
   omega
  have hRl:dl R≤dl n+1:=aAh (by
   have:=aCF n
   simp only [PB]
   omega)
  have hq1:R/n<1000000000:=Nat.div_lt_of_lt_mul (by rw [Nat.mul_comm];exact hRn)
  have hnm:=Nat.div_add_mod R n
  have hml:=Nat.mod_lt R hn
  have hdig:Ev (fun K=>(bif decide (R<n) then bG K (bL n) (Z (R:Int)) K 0 0 else bG K (bL n) (Z (R:Int)) K 0 999999999)) ((R/n:Nat):Int):=by
   by_cases hlt:R<n
   ·rw [dT hlt];simp only [cU]
    exact(aAV hn hL (by omega) 0 0 0 (by omega) (by omega) (by omega) (by omega) (by omega)).ev
   ·rw [dF hlt];simp only [cP]
    exact(aAV hn hL (by omega) 999999999 0 999999999 (by omega) (by omega) (by omega) (by omega) (by omega)).ev
  have h2:=aCV n (R/n) (by omega) hL
  have hle:n*(R/n)≤R:=by omega
  obtain⟨s,s1,s2,s3,s4⟩:=xU (bN R) (bN (n*(R/n))) (n9 hle) (by rw [dJ,dJ];omega) (by show dl R≤_;omega)
  rw [dJ,dJ] at s3
  have h3:=gU false s2 (by rw [s1];show dl R≤_;omega)
  have hs:(vD s).toNat=R%n:=by omega
  rw [hs,l4] at h3
  have es:a.length-j=(a.length-(j+1))+1:=by omega
  obtain⟨q',r',g1,g2,g3,g4,g5⟩:=aA1 ha hn hL hM j (q.set j ((R/n:Nat):Int)) (R%n) (by omega) (by simpa using hq)
   (fun i hi=>by
    by_cases e:i=0
    ·subst e;rw [Nat.add_zero,dC (by omega)];exact⟨Int.natCast_nonneg _,Int.ofNat_lt.2 hq1⟩
    ·rw [d8 (by omega)]
     have:=hD (i-1) (by omega)
     rwa [show j+1+(i-1)=j+i by omega] at this) hml (by
    rw [es,aAA,aAA,dC (by omega),uX (.inl (by omega)),hI]
    have:(R:Int)=n*(R/n:Nat)+(R%n:Nat):=by rw [←Int.natCast_mul,←Int.natCast_add,hnm]
    grind)
  refine⟨q',r',g1,g2,g3,g4,sQ.step ?_⟩
  rw [e0]
  simp only [aX,e1,e2,e6,cU,oB]
  refine sQ.bind h1 ?_
  rw [aC7]
  refine sQ.bind (wR (bN _) (bN _) (nJ _) (nJ _) (by show dl R≤_;omega)) ?_
  rw [dJ,dJ,aMk]
  have bV:sQ (fun K k=>fU K (bL n) q (j:Int) (Z (R:Int)) (aX K a (bL n) k) ((R/n:Nat):Int)) (q',bL r'):=by
   simp only [fU]
   refine sQ.bind h2 ?_
   rw [aC7]
   refine sQ.bind s4 (sQ.bind h3 ?_)
   simp only [e3,e4,e5,oB,aC7]
   exact g5
  by_cases hlt:R<n
  ·have c1:decide ((R:Int)<(n:Int))=true:=dT (by omega)
   rw [dT hlt] at hdig
   simp only [cU] at hdig
   simp only [c1,cU,eG]
   exact sQ.bind hdig bV
  ·have c1:decide ((R:Int)<(n:Int))=false:=dF (by omega)
   rw [dF hlt] at hdig
   simp only [cP] at hdig
   simp only [c1,cP,eG]
   exact sQ.bind hdig bV
theorem aCB (K:Nat) (b:List Int) (x:aA):∀(k:Nat) (lo hi:Int),dS K b x k lo hi=bG K b x k lo hi
 |0,_,_=>rfl
 |k+1,lo,hi=>by simp only [dS,bG,aCB K b x k]
theorem aCJ (K:Nat) (a b:List Int):∀(k:Nat) (q r:List Int) (j:Int),bR K a b k q r j=aX K a b k q r j
 |0,_,_,_=>rfl
 |k+1,q,r,j=>by
  have ih:bR K a b k=aX K a b k:=by funext q r j;exact aCJ K a b k q r j
  simp only [bR,aX,gZ,eG,kL,fU,aCB,ih]
theorem aEl {m n:Nat} (hn:0<n) (hL:dl n≤40000000000) (hM:dl m≤40000000000):∃q,q.length≤dl m+2∧jZ q∧vD q=(m/n:Nat)∧Ev (fun K=>gH K (bL m) (bL n)) (q,bL (m%n)):=by
 have dm:=bN m;have dn:=bN n
 have vm:=dJ m;have vn:=dJ n
 have lm:(bL m).length=dl m:=rfl
 have ln:(bL n).length=dl n:=rfl
 obtain⟨q,r,g1,g2,g3,g4,g5⟩:=aA1 (a:=bL m) dm hn hL (by omega) (bL m).length (List.replicate (bL m).length 0) 0 (Nat.le_refl _) (by simp) (aDP _ _ _) hn (by simp [W])
 rw [vm] at g4
 have hqn:=g2.nonneg
 have hmn:m=n*(vD q).toNat+r:=by
  have:(m:Int)=((n*(vD q).toNat+r:Nat):Int):=by rw [g4,Int.natCast_add,Int.natCast_mul,Int.toNat_of_nonneg hqn]
  omega
 have hq:(vD q).toNat=m/n:=by
  rw [hmn,Nat.mul_add_div hn,Nat.div_eq_of_lt g3,Nat.add_zero]
 have hr:r=m%n:=by rw [hmn,Nat.mul_add_mod,Nat.mod_eq_of_lt g3]
 subst hr
 rw [wI] at g5
 have e1:wK ((bL m).length:Int) (0:Int)=some (List.replicate (bL m).length 0):=xR (by omega)
 have e2:aO (((bL m).length:Int)-1)=some (((bL m).length:Int)-1):=nA (by omega)
 have core:Ev (fun K=>(wK ((bL m).length:Int) (0:Int)).bind fun x23=>(aO (((bL m).length:Int)-1)).bind fun v28=>(aX K (bL m) (bL n) K x23 [] v28).bind fun(x46,x52)=>iJ K x46 x52) (q,bL (m%n)):=by
  simp only [e1,e2,oB]
  refine Ev.bind g5.ev ?_
  simp only [iJ]
  exact Ev.pure _
 by_cases h1:(bL m).length≤2
 ·by_cases h2:(bL n).length≤2
  ·have b1:=vF h1
   have b2:=vF h2
   have hd:=Nat.div_le_self m n
   have hm:=Nat.mod_le m n
   refine⟨bL (m/n),by have:=aF7 m n;show dl _≤_;omega,bN _,dJ _,?_⟩
   have c1:xP (m:Int) (n:Int)=some ((m/n:Nat):Int):=by rw [tV (by omega) (by omega) (by omega)];simp
   have c2:wV (m:Int) (n:Int)=some ((m%n:Nat):Int):=by rw [qI (by omega) (by omega)];simp
   unfold gH
   simp only [dT (show((bL m).length:Int)≤2 by omega),dT (show((bL n).length:Int)≤2 by omega),cU,zU dm h1,zU dn h2,vm,vn,c1,c2,oB]
   refine Ev.bind (xS (by omega)) (Ev.bind (xS (by omega)) ?_)
   rw [aC7,aC7]
   exact Ev.pure _
  ·refine⟨q,by omega,g2,by omega,?_⟩
   unfold gH
   simp only [dT (show((bL m).length:Int)≤2 by omega),dF (show¬((bL n).length:Int)≤2 by omega),cU,cP]
   exact core
 ·refine⟨q,by omega,g2,by omega,?_⟩
  unfold gH
  simp only [dF (show¬((bL m).length:Int)≤2 by omega),cP,aCJ]
  exact core
theorem aBJ {x y a b:Int} (hy:y≠0) (h1:x=y*a+b) (h2:0≤b) (h3:b<y.natAbs):x/y=a∧x%y=b:=by
 have hm:x%y=b:=by
  rw [h1,Int.add_comm,Int.add_mul_emod_self_left]
  by_cases hy0:y<0
  ·have:b%y=b% -y:=by rw [Int.emod_neg]
   rw [this,Int.emod_eq_of_lt h2 (by omega)]
  ·exact Int.emod_eq_of_lt h2 (by omega)
 refine⟨?_,hm⟩
 have h4:=Int.mul_ediv_add_emod x y
 exact Int.eq_of_mul_eq_mul_left hy (by omega)
theorem aCp {x y:Int} (hy:y≠0) (hx:dl x.natAbs≤30000000000) (hy2:dl y.natAbs≤30000000000):Ev (fun K=>iQ K (Z x) (Z y)) (Z (x/y),Z (x%y)):=by
 have e1:(((bL y.natAbs).length:Int)==0)=false:=qF (by
  show(dl y.natAbs:Int)≠0
  have:dl y.natAbs≠0:=by rw [Ne,tL];omega
  omega)
 obtain⟨q,q1,q2,q3,q4⟩:=aEl (m:=x.natAbs) (n:=y.natAbs) (by omega) (by omega) (by omega)
 have hdm:=aF7 x.natAbs y.natAbs
 have hmm:=aD9 x.natAbs y.natAbs
 have hnd:=Nat.div_add_mod x.natAbs y.natAbs
 have hml:=Nat.mod_lt x.natAbs (show 0<y.natAbs by omega)
 have hln:(bL (x.natAbs%y.natAbs)).length=dl (x.natAbs%y.natAbs):=rfl
 have o1:=gU (decide (x<0) != decide (y<0)) q2 (by omega)
 have o2:=gU false (bN (x.natAbs%y.natAbs)) (by omega)
 rw [q3,Int.toNat_natCast,rN] at o1
 rw [dJ,Int.toNat_natCast,l4] at o2
 unfold iQ
 simp only [Z_d,tE,e1,cP]
 refine Ev.bind q4 (Ev.bind o1 (Ev.bind o2 ?_))
 have c1:(x.natAbs:Int)=(y.natAbs:Int)*((x.natAbs/y.natAbs:Nat):Int)+((x.natAbs%y.natAbs:Nat):Int):=by
  rw [←Int.natCast_mul,←Int.natCast_add,hnd]
 generalize x.natAbs/y.natAbs=Q at *
 generalize x.natAbs%y.natAbs=R at *
 by_cases hx0:x<0
 ·have e2:decide (x<0)=true:=dT hx0
  by_cases hR:R=0
  ·subst hR
   have e3:decide (0<((Z ((0:Nat):Int)).d.length:Int))=false:=by rw [Z_d,show((0:Nat):Int).natAbs=0 from rfl,wI];rfl
   simp only [e2,e3,cU,cP]
   by_cases hy0:y<0
   ·rw [dT hy0]
    rw [show(y.natAbs:Int)=-y by omega,show(x.natAbs:Int)=-x by omega,Int.neg_mul] at c1
    obtain⟨u1,u2⟩:=aBJ (x:=x) (y:=y) (a:=Q) (b:=0) hy (by omega) (by omega) (by omega)
    rw [u1,u2]
    exact Ev.pure _
   ·rw [dF hy0]
    rw [show(y.natAbs:Int)=y by omega,show(x.natAbs:Int)=-x by omega] at c1
    obtain⟨u1,u2⟩:=aBJ (x:=x) (y:=y) (a:=-Q) (b:=0) hy (by rw [Int.mul_neg];omega) (by omega) (by omega)
    rw [u1,u2]
    exact Ev.pure _
  ·have hrl:dl R≠0:=by rw [Ne,tL];exact hR
   have e3:decide (0<((Z (R:Int)).d.length:Int))=true:=dT (by rw [pG];simp only [Int.natAbs_natCast];omega)
   simp only [e2,e3,cU]
   have o3:=gU (true != decide (y<0)) (u:=[1]) (jZ.nil.cons (by omega) (by omega)) (by simp)
   rw [vD1,show(1:Int).toNat=1 from rfl,rN] at o3
   obtain⟨s,s1,s2,s3,s4⟩:=xU (bN y.natAbs) (bN R) (n9 (by omega)) (by rw [dJ,dJ];omega) (by show dl _≤_;omega)
   rw [dJ,dJ] at s3
   have o4:=gU false s2 (by rw [s1];show dl _≤_;omega)
   rw [s3,l4] at o4
   refine Ev.bind o3 ?_
   have hsz:∀b:Bool,dl (if b=true then -(Q:Int) else(Q:Int)).natAbs≤40000000000:=fun b=>by
    cases b<;>simp<;>omega
   have hsz1:∀b:Bool,dl (if b=true then -((1:Nat):Int) else((1:Nat):Int)).natAbs≤40000000000:=fun b=>by
    have:dl 1≤1:=aAh (by decide)
    cases b<;>simp<;>omega
   refine Ev.bind (aE4 (hsz _) (hsz1 _)) ?_
   rw [aC7]
   refine Ev.bind s4 (Ev.bind o4 ?_)
   by_cases hy0:y<0
   ·rw [dT hy0]
    rw [show(y.natAbs:Int)=-y by omega,show(x.natAbs:Int)=-x by omega,Int.neg_mul] at c1
    obtain⟨u1,u2⟩:=aBJ (x:=x) (y:=y) (a:=Q+1) (b:=y.natAbs-R) hy (by rw [Int.mul_add];omega) (by omega) (by omega)
    rw [u1,u2]
    have:(((y.natAbs:Int)-R).toNat:Int)=y.natAbs-R:=by omega
    rw [this]
    exact Ev.pure _
   ·rw [dF hy0]
    rw [show(y.natAbs:Int)=y by omega,show(x.natAbs:Int)=-x by omega] at c1
    obtain⟨u1,u2⟩:=aBJ (x:=x) (y:=y) (a:=-(Q+1)) (b:=y.natAbs-R) hy (by rw [Int.mul_neg,Int.mul_add];omega) (by omega) (by omega)
    rw [u1,u2]
    have:(((y.natAbs:Int)-R).toNat:Int)=y.natAbs-R:=by omega
    rw [this,Int.neg_add]
    exact Ev.pure _
 ·have e2:decide (x<0)=false:=dF hx0
  simp only [e2,cP]
  by_cases hy0:y<0
  ·rw [dT hy0]
   rw [show(y.natAbs:Int)=-y by omega,show(x.natAbs:Int)=x by omega,Int.neg_mul] at c1
   obtain⟨u1,u2⟩:=aBJ (x:=x) (y:=y) (a:=-Q) (b:=R) hy (by rw [Int.mul_neg];omega) (by omega) (by omega)
   rw [u1,u2]
   exact Ev.pure _
  ·rw [dF hy0]
   rw [show(y.natAbs:Int)=y by omega,show(x.natAbs:Int)=x by omega] at c1
   obtain⟨u1,u2⟩:=aBJ (x:=x) (y:=y) (a:=Q) (b:=R) hy (by omega) (by omega) (by omega)
   rw [u1,u2]
   exact Ev.pure _
theorem aJx (K:Nat):∀(n m k:Nat),n<k→eV K k (m:Int) (n:Int)=some ((Nat.gcd m n:Nat):Int):=by
 intro n
 induction n using Nat.strongRecOn with
 |_ n ih=>
  intro m k hk
  obtain⟨k',rfl,_⟩:=bI hk
  by_cases h:n=0
  ·subst h
   simp [eV]
  ·have e1:decide (0<(n:Int))=true:=dT (by omega)
   have e2:wV (m:Int) (n:Int)=some ((m%n:Nat):Int):=by rw [qI (by omega) (by omega)];simp
   simp only [eV,e1,cU,e2,oB]
   have hlt:=Nat.mod_lt m (show 0<n by omega)
   rw [ih (m%n) hlt n k' (by omega)]
   congr 2
   rw [Nat.gcd_comm m n,Nat.gcd_rec n m,Nat.gcd_comm]
theorem aJA:∀(n m:Nat),dl m≤30000000000→dl n≤30000000000→∃r,sQ (fun K k=>dZ K k (Z (n:Int)) (Z (m:Int))) r∧(r=.ret (Z (Nat.gcd m n:Nat))∨r=.go (Z (Nat.gcd m n:Nat))):=by
 intro n
 induction n using Nat.strongRecOn with
 |_ n ih=>
  intro m hm hn
  by_cases h:n=0
  ·subst h
   refine⟨.go (Z m),sQ.of 1 fun K k hk=>?_,.inr (by simp)⟩
   obtain⟨k',rfl,_⟩:=bI (n:=0) hk
   have e:decide (0<((Z ((0:Nat):Int)).d.length:Int))=false:=by rw [pG,show((0:Nat):Int).natAbs=0 from rfl,uF];rfl
   simp only [dZ,e,cP]
  ·have e1:decide (0<((bL n).length:Int))=true:=dT (by
    show(0:Int)<dl n
    have hl:dl n≠0:=by rw [Ne,tL];exact h
    omega)
   have hlt:=Nat.mod_lt m (show 0<n by omega)
   obtain⟨r,h1,h2⟩:=ih (m%n) hlt n hn (Nat.le_trans (aD9 _ _) hm)
   have hg:Nat.gcd n (m%n)=Nat.gcd m n:=by rw [Nat.gcd_comm m n,Nat.gcd_rec n m,Nat.gcd_comm]
   rw [hg] at h2
   have hdiv:=aCp (x:=(m:Int)) (y:=(n:Int)) (by omega) (by simpa using hm) (by simpa using hn)
   rw [←Int.natCast_emod] at hdiv
   by_cases hs:dl m≤2∧dl n≤2
   ·refine⟨.ret (Z (Nat.gcd m n:Nat)),sQ.step ?_,.inl rfl⟩
    have b1:=vF (n:=m) hs.1
    have b2:=vF (n:=n) hs.2
    have hgl:Nat.gcd m n≤n:=Nat.gcd_le_right m (by omega)
    have f1:decide (((bL m).length:Int)≤2)=true:=dT (by have:(bL m).length=dl m:=rfl;omega)
    have f2:decide (((bL n).length:Int)≤2)=true:=dT (by have:(bL n).length=dl n:=rfl;omega)
    simp only [dZ,e1,f1,f2,cU,aC7,zU (bN m) hs.1,zU (bN n) hs.2,dJ,oB]
    refine sQ.bind (x:=((Nat.gcd m n:Nat):Int)) (f:=fun K=>eV K K (m:Int) (n:Int)) ⟨n+1,fun K hK=>aJx K n m K (by omega)⟩ ?_
    simp only [nP]
    exact sQ.bind (xS (by omega)) (sQ.of 0 fun _ _ _=>rfl)
   ·refine⟨r,sQ.step ?_,h2⟩
    simp only [dZ,e1,cU,aC7]
    by_cases hs1:dl m≤2
    ·have f1:decide (((bL m).length:Int)≤2)=true:=dT (by have:(bL m).length=dl m:=rfl;omega)
     have f2:decide (((bL n).length:Int)≤2)=false:=dF (by have:(bL n).length=dl n:=rfl;omega)
     simp only [f1,f2,cU,cP]
     exact sQ.bind hdiv h1
    ·have f1:decide (((bL m).length:Int)≤2)=false:=dF (by have:(bL m).length=dl m:=rfl;omega)
     simp only [f1,cP]
     exact sQ.bind hdiv h1
theorem aIi {x y:Int} (hx:dl x.natAbs≤30000000000) (hy:dl y.natAbs≤30000000000):Ev (fun K=>oD K (Z x) (Z y)) (Z (Int.gcd x y:Nat)):=by
 unfold oD
 have h1:=gU false (bN x.natAbs) (by show dl _≤_;omega)
 have h2:=gU false (bN y.natAbs) (by show dl _≤_;omega)
 rw [dJ,l4,Int.toNat_natCast] at h1 h2
 simp only [Z_d]
 refine Ev.bind h1 (Ev.bind h2 ?_)
 obtain⟨r,h3,h4⟩:=aJA y.natAbs x.natAbs hx hy
 refine Ev.bind h3.ev ?_
 rcases h4 with rfl|rfl
 ·exact Ev.pure _
 ·exact Ev.pure _
theorem aFk (x y:aA) (hl:x.d.length=y.d.length) (hL:x.d.length≤9000000000000):∀(t i:Nat),i+t=x.d.length→∀K k,t<k→eW K x y k (i:Int)=some (if x.d.drop i=y.d.drop i then .go () else .ret false)
 |0,i,hi,K,k,hk=>by
  obtain⟨k',rfl,_⟩:=bI hk
  have:i=x.d.length:=by omega
  subst this
  simp only [eW,dF (show¬(x.d.length:Int)<(x.d.length:Int) by omega),cP]
  rw [if_pos]
  rw [List.drop_of_length_le (Nat.le_refl _),List.drop_of_length_le (by omega)]
 |t+1,i,hi,K,k,hk=>by
  obtain⟨k',rfl,_⟩:=bI hk
  have e1:decide ((i:Int)<(x.d.length:Int))=true:=dT (by omega)
  have e2:=cE (xs:=x.d) (i:=i) (by omega)
  have e3:=cE (xs:=y.d) (i:=i) (by omega)
  have e5:aO ((i:Int)+1)=some ((i+1:Nat):Int):=wB (m:=0) (by omega) (by omega)
  have dx:x.d.drop i=x.d.getD i 0::x.d.drop (i+1):=by
   rw [List.drop_eq_getElem_cons (by omega)];simp [List.getD_eq_getElem?_getD,show i<x.d.length by omega]
  have dy:y.d.drop i=y.d.getD i 0::y.d.drop (i+1):=by
   rw [List.drop_eq_getElem_cons (by omega)];simp [List.getD_eq_getElem?_getD,show i<y.d.length by omega]
  by_cases h:x.d.getD i 0=y.d.getD i 0
  ·have ih:=aFk x y hl hL t (i+1) (by omega) K k' (by omega)
   simp only [eW,e1,e2,e3,e5,nF h,cU,cP,oB,ih]
   by_cases hd:x.d.drop (i+1)=y.d.drop (i+1)
   ·rw [if_pos hd,if_pos (by rw [dx,dy,h,hd])]
   ·rw [if_neg hd,if_neg (by rw [dx,dy];intro e;exact hd (List.cons.inj e).2)]
  ·simp only [eW,e1,e2,e3,nT h,cU,oB]
   rw [if_neg (by rw [dx,dy];intro e;exact h (List.cons.inj e).1)]
theorem aDq (x y:aA) (hL:x.d.length≤9000000000000):Ev (fun K=>lC K x y) (decide (x=y)):=by
 refine⟨x.d.length+1,fun K hK=>?_⟩
 unfold lC
 by_cases h1:x.neg=y.neg
 ·have e1:(x.neg != y.neg)=false:=by rw [h1];exact bne_self_eq_false _
  by_cases h2:x.d.length=y.d.length
  ·have e2:((x.d.length:Int) != (y.d.length:Int))=false:=nF (by omega)
   have h:=aFk x y h2 hL x.d.length 0 (by omega) K K (by omega)
   simp only [Int.natCast_zero,List.drop_zero] at h
   simp only [e1,e2,cP,h,oB]
   by_cases h3:x.d=y.d
   ·rw [if_pos h3,dT (by cases x;cases y;simp_all)];rfl
   ·rw [if_neg h3,dF (by intro e;subst e;exact h3 rfl)]
  ·have e2:((x.d.length:Int) != (y.d.length:Int))=true:=nT (by omega)
   simp only [e1,e2,cP,cU]
   rw [dF (by intro e;subst e;exact h2 rfl)]
 ·have e1:(x.neg != y.neg)=true:=bne_iff_ne.2 h1
  simp only [e1,cU]
  rw [dF (by intro e;subst e;exact h1 rfl)]
end Go.Proofs.YtolfcbpgmfbgmaaGreat
set_option linter.unusedVariables false
set_option maxRecDepth 100000
namespace Go.Proofs.YtolfcbpgmfbgmaaGreat
instance tyA42:TyA Tryz.prog 42 4:=mkA Tryz.underlying42 rfl (by kernel_rfl)
theorem tyB42:TyB Tryz.prog 42 [(0,2),(2,2)] (([pB false]++[pS cI ([]:List Int)])++([pB false]++[pS cI ([]:List Int)])):=mkB (z:=.agg #[.bool false,.slice none 0 0,.bool false,.slice none 0 0]) (by kernel_rfl) Tryz.underlying42 (by kernel_rfl) (fun M=>bA.app (bA.app (show bA M [pB false] [.bool false] from zU1) (show bA M [pS cI ([]:List Int)] [.slice none 0 0] from⟨gM cI M,trivial⟩)) (bA.app (show bA M [pB false] [.bool false] from zU1) (show bA M [pS cI ([]:List Int)] [.slice none 0 0] from⟨gM cI M,trivial⟩)))
instance tyF42_0:TyF Tryz.prog 42 0 0:=mkF (ft:=40) (k:=1) Tryz.underlying42 rfl rfl rfl (by kernel_rfl)
instance tyF42_1:TyF Tryz.prog 42 1 2:=mkF (ft:=40) (k:=1) Tryz.underlying42 rfl rfl rfl (by kernel_rfl)
instance tyZ42:TyZ Tryz.prog 42 (([pB false]++[pS cI ([]:List Int)])++([pB false]++[pS cI ([]:List Int)])):=mkZ (z:=.agg #[.bool false,.slice none 0 0,.bool false,.slice none 0 0]) (k:=4) (by kernel_rfl) rfl (fun M=>bA.app (bA.app (show bA M [pB false] [.bool false] from zU1) (show bA M [pS cI ([]:List Int)] [.slice none 0 0] from⟨gM cI M,trivial⟩)) (bA.app (show bA M [pB false] [.bool false] from zU1) (show bA M [pS cI ([]:List Int)] [.slice none 0 0] from⟨gM cI M,trivial⟩)))
def fL (K:Nat) (a0:bQ):Option aA:=
 bif((a0.q.d.length:Int)==0) then((fG K 1).bind fun v4=>some v4) else(some a0.q)
theorem lD {K:Nat} {a0:bQ} {r:aA} (hF:fL K a0=some r):Ct Tryz.prog 59 [.va (bQ.e a0)] (.va (aA.e r)):=by
 unfold fL at hF
 refine aB Tryz.func59 rfl (by kernel_rfl) Tryz.ntmps59 rfl (fun w0 M0=>?_)
 refine aC (aJ (dE rfl rfl trivial (fun b1=>?_)))
 refine aE rfl tyZ40 (fun b2=>?_)
 refine go ?_ ?_
 refine aD hF rfl (fun h3 hF=>?_) (fun h3 hF=>?_)
 ·obtain⟨v4,h5,hF⟩:=aZ hF kN
  exact bV
 exact bV
def mF (a0:aA):Option Bool:=
 bif a0.neg then(some false) else(bif((a0.d.length:Int) != 1) then(some false) else((bP a0.d 0).bind fun v4=>some (v4==1)))
theorem vQ {a0:aA} {r:Bool} (hF:mF a0=some r):Ct Tryz.prog 97 [.va (aA.e a0)] (.vc (pB r)):=by
 unfold mF at hF
 refine aB Tryz.func97 rfl (by kernel_rfl) Tryz.ntmps97 rfl (fun w0 M0=>?_)
 refine aC (aJ (dE rfl rfl trivial (fun b1=>?_)))
 refine go ?_ ?_
 refine dG hF (fun h2 hF=>?_) (fun h2 hF=>?_)
 ·refine go ?_ ?_
  refine iR rfl ?_
  exact bV
 refine go ?_ ?_
 refine aD hF rfl (fun h3 hF=>?_) (fun h3 hF=>?_)
 ·exact bV
 obtain⟨v4,h5,hF⟩:=aR hF
 exact bV
def fX (K:Nat) (a0:aA) (a1:aA):Option bQ:=
 bif((a1.d.length:Int)==0) then(some (⟨(⟨false,([]:List Int)⟩:aA),(⟨false,([]:List Int)⟩:aA)⟩:bQ)) else(bif((a0.d.length:Int)==0) then(some (⟨(⟨false,([]:List Int)⟩:aA),(⟨false,([]:List Int)⟩:aA)⟩:bQ)) else((oD K a0 a1).bind fun v6=>(iQ K a0 v6).bind fun v9=>(iQ K a1 v6).bind fun v13=>bif v13.1.neg then((kI K v9.1).bind fun v18=>(kI K v13.1).bind fun v20=>(mF v20).bind fun v22=>bif v22 then(some (⟨v18,(⟨false,([]:List Int)⟩:aA)⟩:bQ)) else(some (⟨v18,v20⟩:bQ))) else((mF v13.1).bind fun v25=>bif v25 then(some (⟨v9.1,(⟨false,([]:List Int)⟩:aA)⟩:bQ)) else(some (⟨v9.1,v13.1⟩:bQ)))))
theorem sA {K:Nat} {a0:aA} {a1:aA} {r:bQ} (hF:fX K a0 a1=some r):Ct Tryz.prog 60 [.va (aA.e a0),.va (aA.e a1)] (.va (bQ.e r)):=by
 unfold fX at hF
 refine aB Tryz.func60 rfl (by kernel_rfl) Tryz.ntmps60 rfl (fun w0 M0=>?_)
 refine aC (aJ (dE rfl rfl trivial (fun b1=>?_)))
 refine dE rfl rfl trivial (fun b2=>?_)
 refine aE rfl tyZ42 (fun b3=>?_)
 refine go ?_ ?_
 refine dG hF (fun h4 hF=>?_) (fun h4 hF=>?_)
 ·refine go ?_ ?_
  refine iR rfl ?_
  refine aC (aJ (aF (fK (is:=[]) (xs:=[]) (ps:=[]) rfl tyB42 rfl rfl trivial rfl) trivial ?_))
  exact bV
 refine go ?_ ?_
 refine aD hF rfl (fun h5 hF=>?_) (fun h5 hF=>?_)
 ·refine aC (aJ (aF (fK (is:=[]) (xs:=[]) (ps:=[]) rfl tyB42 rfl rfl trivial rfl) trivial ?_))
  exact bV
 obtain⟨v6,h7,hF⟩:=aZ hF aAD
 refine go ?_ ?_
 refine aE rfl tyZ40 (fun b8=>?_)
 obtain⟨v9,h10,hF⟩:=aZ hF pH
 refine go ?_ ?_
 refine aE rfl tyZ40 (fun b11=>?_)
 refine aE rfl tyZ40 (fun b12=>?_)
 obtain⟨v13,h14,hF⟩:=aZ hF pH
 refine go ?_ ?_
 refine aE rfl tyZ40 (fun b15=>?_)
 refine aE rfl tyZ40 (fun b16=>?_)
 refine go ?_ ?_
 refine aD hF rfl (fun h17 hF=>?_) (fun h17 hF=>?_)
 ·obtain⟨v18,h19,hF⟩:=aZ hF s5
  obtain⟨v20,h21,hF⟩:=aZ hF s5
  obtain⟨v22,h23,hF⟩:=aZ hF vQ
  refine go ?_ ?_
  refine aD hF rfl (fun h24 hF=>?_) (fun h24 hF=>?_)
  ·refine go ?_ ?_
   refine aF (fK (is:=[0]) (xs:=[.tmp 44]) (ps:=[.va (aA.e v18)]) rfl tyB42 rfl rfl ⟨trivial,trivial⟩ rfl) zU1 ?_
   exact bV
  refine go ?_ ?_
  refine aF (fK (is:=[0,1]) (xs:=[.tmp 46,.tmp 47]) (ps:=[.va (aA.e v18),.va (aA.e v20)]) rfl tyB42 rfl rfl ⟨trivial,trivial,trivial⟩ rfl) zU2 ?_
  exact bV
 obtain⟨v25,h26,hF⟩:=aZ hF vQ
 refine go ?_ ?_
 refine aD hF rfl (fun h27 hF=>?_) (fun h27 hF=>?_)
 ·refine go ?_ ?_
  refine aF (fK (is:=[0]) (xs:=[.tmp 44]) (ps:=[.va (aA.e v9.1)]) rfl tyB42 rfl rfl ⟨trivial,trivial⟩ rfl) zU1 ?_
  exact bV
 refine go ?_ ?_
 refine aF (fK (is:=[0,1]) (xs:=[.tmp 46,.tmp 47]) (ps:=[.va (aA.e v9.1),.va (aA.e v13.1)]) rfl tyB42 rfl rfl ⟨trivial,trivial,trivial⟩ rfl) zU2 ?_
 exact bV
abbrev aAY:Nat:=19
def qU (K:Nat) (a0:bQ) (a1:bQ):Option bQ:=
 (fL K a1).bind fun v6=>(fJ K a0.p v6).bind fun v8=>(fL K a0).bind fun v12=>(fJ K a1.p v12).bind fun v14=>(l7 K v8 v14).bind fun v18=>(fL K a0).bind fun v20=>(fL K a1).bind fun v22=>(fJ K v20 v22).bind fun v24=>(fX K v18 v24).bind fun v26=>some v26
theorem aAj {K:Nat} {a0:bQ} {a1:bQ} {r:bQ} (hF:qU K a0 a1=some r):Ct Tryz.prog 19 [.va (bQ.e a0),.va (bQ.e a1)] (.va (bQ.e r)):=by
 unfold qU at hF
 refine aB Tryz.func19 rfl (by kernel_rfl) Tryz.ntmps19 rfl (fun w0 M0=>?_)
 refine aC (aJ (dE rfl rfl trivial (fun b1=>?_)))
 refine dE rfl rfl trivial (fun b2=>?_)
 refine aE rfl tyZ42 (fun b3=>?_)
 obtain⟨v6,h7,hF⟩:=aZ hF lD
 obtain⟨v8,h9,hF⟩:=aZ hF lI
 refine go ?_ ?_
 refine dr [0,1,0,4,15,0,63] 6 1 ?_ (fun bs5 G4=>?_)
 obtain⟨v12,h13,hF⟩:=aZ hF lD
 obtain⟨v14,h15,hF⟩:=aZ hF lI
 refine go ?_ ?_
 refine dr [0,1,0,4,15,0,63] 6 1 ?_ (fun bs11 G10=>?_)
 obtain⟨v18,h19,hF⟩:=aZ hF vN
 obtain⟨v20,h21,hF⟩:=aZ hF lD
 obtain⟨v22,h23,hF⟩:=aZ hF lD
 obtain⟨v24,h25,hF⟩:=aZ hF lI
 obtain⟨v26,h27,hF⟩:=aZ hF sA
 refine go ?_ ?_
 refine dr [0,0,3,0,15,0,63,127,255,511] 9 1 ?_ (fun bs17 G16=>?_)
 exact bV
abbrev aBp:Nat:=20
def rT (K:Nat) (a0:Int) (a1:Int):Option bQ:=
 (fG K a0).bind fun v2=>(fG K a1).bind fun v4=>(fX K v2 v4).bind fun v6=>some v6
theorem aAO {K:Nat} {a0:Int} {a1:Int} {r:bQ} (hF:rT K a0 a1=some r):Ct Tryz.prog 20 [.vc (pI .i64 a0),.vc (pI .i64 a1)] (.va (bQ.e r)):=by
 unfold rT at hF
 refine aB Tryz.func20 rfl (by kernel_rfl) Tryz.ntmps20 rfl (fun w0 M0=>?_)
 refine aC (aJ (aE rfl tyZ42 (fun b1=>?_)))
 obtain⟨v2,h3,hF⟩:=aZ hF kN
 obtain⟨v4,h5,hF⟩:=aZ hF kN
 obtain⟨v6,h7,hF⟩:=aZ hF sA
 exact bV
abbrev aA6:Nat:=41
def qV (K:Nat) (a0:bQ):Option bQ:=
 (kI K a0.p).bind fun v5=>some (⟨v5,a0.q⟩:bQ)
theorem aAx {K:Nat} {a0:bQ} {r:bQ} (hF:qV K a0=some r):Ct Tryz.prog 41 [.va (bQ.e a0)] (.va (bQ.e r)):=by
 unfold qV at hF
 refine aB Tryz.func41 rfl (by kernel_rfl) Tryz.ntmps41 rfl (fun w0 M0=>?_)
 refine aC (aJ (dE rfl rfl trivial (fun b1=>?_)))
 refine aE rfl tyZ42 (fun b2=>?_)
 obtain⟨v5,h6,hF⟩:=aZ hF s5
 refine go ?_ ?_
 refine jI [0,1,3,0,8,31,63] 6 1 [.v (.vc (pP (some b1) 0)),.v (.va (aA.e a0.p)),.v (.va (aA.e v5)),.v (.vc (pP (some b1) 2)),.v (.va (aA.e a0.q)),.v (.va ((aA.e v5)++(aA.e a0.q)))] bB ⟨d0 (iF (off:=0) (k:=0) rfl tyF42_0) zU1,d0 (fQ 1 2 rfl rfl rfl rfl (.agg tyA40)) zU1,d0 (bJ rfl h6 rfl) zU1,d0 (iF (off:=0) (k:=2) rfl tyF42_1) zU1,d0 (fQ 1 2 rfl rfl rfl rfl (.agg tyA40)) zU1,d0 (fK (is:=[0,1]) (xs:=[.tmp 5,.tmp 7]) (ps:=[.va (aA.e v5),.va (aA.e a0.q)]) rfl tyB42 rfl rfl ⟨trivial,trivial,trivial⟩ rfl) zU2,trivial⟩ (fun bs4 G3=>?_)
 exact bV
def pV (a0:aA):Option Bool:=
 bif(!a0.neg) then(bif((a0.d.length:Int)==1) then((bP a0.d 0).bind fun v4=>some (v4==1)) else(some false)) else(some false)
theorem uO {a0:aA} {r:Bool} (hF:pV a0=some r):Ct Tryz.prog 132 [.va (aA.e a0)] (.vc (pB r)):=by
 unfold pV at hF
 refine aB Tryz.func132 rfl (by kernel_rfl) Tryz.ntmps132 rfl (fun w0 M0=>?_)
 refine aC (aJ (dE rfl rfl trivial (fun b1=>?_)))
 refine go ?_ ?_
 refine dG hF (fun h2 hF=>?_) (fun h2 hF=>?_)
 ·refine go ?_ ?_
  refine dG hF (fun h3 hF=>?_) (fun h3 hF=>?_)
  ·obtain⟨v4,h5,hF⟩:=aR hF
   exact bV
  exact bV
 exact bV
def lM (a0:aA) (a1:aA):Option bQ:=
 bif a1.neg then((oN a0).bind fun v7=>(oN a1).bind fun v9=>(pV v9).bind fun v11=>bif v11 then(some (⟨v7,(⟨false,([]:List Int)⟩:aA)⟩:bQ)) else(some (⟨v7,v9⟩:bQ))) else((pV a1).bind fun v14=>bif v14 then(some (⟨a0,(⟨false,([]:List Int)⟩:aA)⟩:bQ)) else(some (⟨a0,a1⟩:bQ)))
theorem sE {a0:aA} {a1:aA} {r:bQ} (hF:lM a0 a1=some r):Ct Tryz.prog 125 [.va (aA.e a0),.va (aA.e a1)] (.va (bQ.e r)):=by
 unfold lM at hF
 refine aB Tryz.func125 rfl (by kernel_rfl) Tryz.ntmps125 rfl (fun w0 M0=>?_)
 refine aC (aJ (dE rfl rfl trivial (fun b1=>?_)))
 refine dE rfl rfl trivial (fun b2=>?_)
 refine aE rfl tyZ42 (fun b3=>?_)
 refine go ?_ ?_
 refine aD hF rfl (fun h4 hF=>?_) (fun h4 hF=>?_)
 ·obtain⟨v7,h8,hF⟩:=aZ hF vL
  obtain⟨v9,h10,hF⟩:=aZ hF vL
  refine dr [0,1,0,7,15,31] 4 2 ?_ (fun bs6 G5=>?_)
  obtain⟨v11,h12,hF⟩:=aZ hF uO
  refine go ?_ ?_
  refine aD hF rfl (fun h13 hF=>?_) (fun h13 hF=>?_)
  ·refine go ?_ ?_
   refine aF (fK (is:=[0]) (xs:=[.tmp 13]) (ps:=[.va (aA.e v7)]) rfl tyB42 rfl rfl ⟨trivial,trivial⟩ rfl) zU1 ?_
   exact bV
  refine go ?_ ?_
  refine aF (fK (is:=[0,1]) (xs:=[.tmp 15,.tmp 16]) (ps:=[.va (aA.e v7),.va (aA.e v9)]) rfl tyB42 rfl rfl ⟨trivial,trivial,trivial⟩ rfl) zU2 ?_
  exact bV
 obtain⟨v14,h15,hF⟩:=aZ hF uO
 refine go ?_ ?_
 refine aD hF rfl (fun h16 hF=>?_) (fun h16 hF=>?_)
 ·refine go ?_ ?_
  refine aF (fK (is:=[0]) (xs:=[.tmp 13]) (ps:=[.va (aA.e a0)]) rfl tyB42 rfl rfl ⟨trivial,trivial⟩ rfl) zU1 ?_
  exact bV
 refine go ?_ ?_
 refine aF (fK (is:=[0,1]) (xs:=[.tmp 15,.tmp 16]) (ps:=[.va (aA.e a0),.va (aA.e a1)]) rfl tyB42 rfl rfl ⟨trivial,trivial,trivial⟩ rfl) zU2 ?_
 exact bV
def iA (K:Nat) (a0:aA) (a1:aA):Option bQ:=
 bif((a1.d.length:Int)==0) then(some (⟨(⟨false,([]:List Int)⟩:aA),(⟨false,([]:List Int)⟩:aA)⟩:bQ)) else(bif((a0.d.length:Int)==0) then(some (⟨(⟨false,([]:List Int)⟩:aA),(⟨false,([]:List Int)⟩:aA)⟩:bQ)) else((qE K a0 a1).bind fun v6=>(pV v6).bind fun v9=>bif(!v9) then((qD K a0 v6).bind fun v12=>(qD K a1 v6).bind fun v14=>(lM v12.1 v14.1).bind fun v16=>some v16) else((lM a0 a1).bind fun v18=>some v18)))
theorem rF {K:Nat} {a0:aA} {a1:aA} {r:bQ} (hF:iA K a0 a1=some r):Ct Tryz.prog 85 [.va (aA.e a0),.va (aA.e a1)] (.va (bQ.e r)):=by
 unfold iA at hF
 refine aB Tryz.func85 rfl (by kernel_rfl) Tryz.ntmps85 rfl (fun w0 M0=>?_)
 refine aC (aJ (dE rfl rfl trivial (fun b1=>?_)))
 refine dE rfl rfl trivial (fun b2=>?_)
 refine aE rfl tyZ42 (fun b3=>?_)
 refine go ?_ ?_
 refine dG hF (fun h4 hF=>?_) (fun h4 hF=>?_)
 ·refine go ?_ ?_
  refine iR rfl ?_
  refine aC (aJ (aF (fK (is:=[]) (xs:=[]) (ps:=[]) rfl tyB42 rfl rfl trivial rfl) trivial ?_))
  exact bV
 refine go ?_ ?_
 refine aD hF rfl (fun h5 hF=>?_) (fun h5 hF=>?_)
 ·refine aC (aJ (aF (fK (is:=[]) (xs:=[]) (ps:=[]) rfl tyB42 rfl rfl trivial rfl) trivial ?_))
  exact bV
 obtain⟨v6,h7,hF⟩:=aZ hF zD
 refine go ?_ ?_
 refine aE rfl tyZ40 (fun b8=>?_)
 obtain⟨v9,h10,hF⟩:=aZ hF uO
 refine go ?_ ?_
 refine aD hF rfl (fun h11 hF=>?_) (fun h11 hF=>?_)
 ·obtain⟨v12,h13,hF⟩:=aZ hF yW
  obtain⟨v14,h15,hF⟩:=aZ hF yW
  obtain⟨v16,h17,hF⟩:=aZ hF sE
  exact bV
 obtain⟨v18,h19,hF⟩:=aZ hF sE
 exact bV
abbrev aJp:Nat:=47
def aA0 (K:Nat) (a0:Int) (a1:Int):Option bQ:=
 (kM a0).bind fun v2=>(kM a1).bind fun v4=>(iA K v2 v4).bind fun v6=>some v6
theorem aHC {K:Nat} {a0:Int} {a1:Int} {r:bQ} (hF:aA0 K a0 a1=some r):Ct Tryz.prog 47 [.vc (pI .i64 a0),.vc (pI .i64 a1)] (.va (bQ.e r)):=by
 unfold aA0 at hF
 refine aB Tryz.func47 rfl (by kernel_rfl) Tryz.ntmps47 rfl (fun w0 M0=>?_)
 refine aC (aJ (aE rfl tyZ42 (fun b1=>?_)))
 obtain⟨v2,h3,hF⟩:=aZ hF oO
 obtain⟨v4,h5,hF⟩:=aZ hF oO
 obtain⟨v6,h7,hF⟩:=aZ hF rF
 exact bV
abbrev aF9:Nat:=50
def uD (a0:bQ):Option Int:=
 (rI a0.p).bind fun v2=>some v2
theorem yV {a0:bQ} {r:Int} (hF:uD a0=some r):Ct Tryz.prog 50 [.va (bQ.e a0)] (.vc (pI .i64 r)):=by
 unfold uD at hF
 refine aB Tryz.func50 rfl (by kernel_rfl) Tryz.ntmps50 rfl (fun w0 M0=>?_)
 refine aC (aJ (dE rfl rfl trivial (fun b1=>?_)))
 obtain⟨v2,h3,hF⟩:=aZ hF aBU
 exact bV
abbrev aAv:Nat:=55
def qB (K:Nat) (a0:bQ) (a1:bQ):Option Bool:=
 (lC K a0.p a1.p).bind fun v3=>bif v3 then((lC K a0.q a1.q).bind fun v6=>some v6) else(some false)
theorem z9 {K:Nat} {a0:bQ} {a1:bQ} {r:Bool} (hF:qB K a0 a1=some r):Ct Tryz.prog 55 [.va (bQ.e a0),.va (bQ.e a1)] (.vc (pB r)):=by
 unfold qB at hF
 refine aB Tryz.func55 rfl (by kernel_rfl) Tryz.ntmps55 rfl (fun w0 M0=>?_)
 refine aC (aJ (dE rfl rfl trivial (fun b1=>?_)))
 refine dE rfl rfl trivial (fun b2=>?_)
 obtain⟨v3,h4,hF⟩:=aZ hF uW
 refine go ?_ ?_
 refine dG hF (fun h5 hF=>?_) (fun h5 hF=>?_)
 ·obtain⟨v6,h7,hF⟩:=aZ hF uW
  exact bV
 exact bV
abbrev aHG:Nat:=69
def xN (a0:bQ):Option bQ:=
 (oN a0.p).bind fun v5=>some (⟨v5,a0.q⟩:bQ)
theorem aCq {a0:bQ} {r:bQ} (hF:xN a0=some r):Ct Tryz.prog 69 [.va (bQ.e a0)] (.va (bQ.e r)):=by
 unfold xN at hF
 refine aB Tryz.func69 rfl (by kernel_rfl) Tryz.ntmps69 rfl (fun w0 M0=>?_)
 refine aC (aJ (dE rfl rfl trivial (fun b1=>?_)))
 refine aE rfl tyZ42 (fun b2=>?_)
 obtain⟨v5,h6,hF⟩:=aZ hF vL
 refine go ?_ ?_
 refine jI [0,1,3,0,8,31,63] 6 1 [.v (.vc (pP (some b1) 0)),.v (.va (aA.e a0.p)),.v (.va (aA.e v5)),.v (.vc (pP (some b1) 2)),.v (.va (aA.e a0.q)),.v (.va ((aA.e v5)++(aA.e a0.q)))] bB ⟨d0 (iF (off:=0) (k:=0) rfl tyF42_0) zU1,d0 (fQ 1 2 rfl rfl rfl rfl (.agg tyA40)) zU1,d0 (bJ rfl h6 rfl) zU1,d0 (iF (off:=0) (k:=2) rfl tyF42_1) zU1,d0 (fQ 1 2 rfl rfl rfl rfl (.agg tyA40)) zU1,d0 (fK (is:=[0,1]) (xs:=[.tmp 5,.tmp 7]) (ps:=[.va (aA.e v5),.va (aA.e a0.q)]) rfl tyB42 rfl rfl ⟨trivial,trivial,trivial⟩ rfl) zU2,trivial⟩ (fun bs4 G3=>?_)
 exact bV
def zV:Option aA:=
 (kM 1).bind fun v2=>some v2
theorem aFS {r:aA} (hF:zV=some r):Ct Tryz.prog 159 [] (.va (aA.e r)):=by
 unfold zV at hF
 refine aB Tryz.func159 rfl (by kernel_rfl) Tryz.ntmps159 rfl (fun w0 M0=>?_)
 refine aC (aJ (aE rfl tyZ40 (fun b1=>?_)))
 obtain⟨v2,h3,hF⟩:=aZ hF oO
 exact bV
def dN (a0:bQ):Option aA:=
 bif((a0.q.d.length:Int)==0) then((zV).bind fun v4=>some v4) else(some a0.q)
theorem jM {a0:bQ} {r:aA} (hF:dN a0=some r):Ct Tryz.prog 123 [.va (bQ.e a0)] (.va (aA.e r)):=by
 unfold dN at hF
 refine aB Tryz.func123 rfl (by kernel_rfl) Tryz.ntmps123 rfl (fun w0 M0=>?_)
 refine aC (aJ (dE rfl rfl trivial (fun b1=>?_)))
 refine aE rfl tyZ40 (fun b2=>?_)
 refine go ?_ ?_
 refine aD hF rfl (fun h3 hF=>?_) (fun h3 hF=>?_)
 ·obtain⟨v4,h5,hF⟩:=aZ hF aFS
  exact bV
 exact bV
abbrev aH1:Nat:=71
def xH (K:Nat) (a0:bQ) (a1:bQ):Option bQ:=
 bif((a0.q.d.length:Int)==0) then(bif((a1.q.d.length:Int)==0) then((lO K a0.p a1.p).bind fun v6=>some (⟨v6,(⟨false,([]:List Int)⟩:aA)⟩:bQ)) else(bif((a0.p.d.length:Int)==0) then(some a1) else(bif((a1.p.d.length:Int)==0) then(some a0) else((dN a0).bind fun v12=>(dN a1).bind fun v14=>(bK K a0.p v14).bind fun v18=>(bK K a1.p v12).bind fun v20=>(lO K v18 v20).bind fun v22=>(bK K v12 v14).bind fun v24=>(iA K v22 v24).bind fun v26=>some v26)))) else(bif((a0.p.d.length:Int)==0) then(some a1) else(bif((a1.p.d.length:Int)==0) then(some a0) else((dN a0).bind fun v32=>(dN a1).bind fun v34=>(bK K a0.p v34).bind fun v38=>(bK K a1.p v32).bind fun v40=>(lO K v38 v40).bind fun v42=>(bK K v32 v34).bind fun v44=>(iA K v42 v44).bind fun v46=>some v46)))
theorem aCR {K:Nat} {a0:bQ} {a1:bQ} {r:bQ} (hF:xH K a0 a1=some r):Ct Tryz.prog 71 [.va (bQ.e a0),.va (bQ.e a1)] (.va (bQ.e r)):=by
 unfold xH at hF
 refine aB Tryz.func71 rfl (by kernel_rfl) Tryz.ntmps71 rfl (fun w0 M0=>?_)
 refine aC (aJ (dE rfl rfl trivial (fun b1=>?_)))
 refine dE rfl rfl trivial (fun b2=>?_)
 refine aE rfl tyZ42 (fun b3=>?_)
 refine go ?_ ?_
 refine aK (go ?_ ?_)
 refine dG hF (fun h4 hF=>?_) (fun h4 hF=>?_)
 ·refine go ?_ ?_
  refine aD hF rfl (fun h5 hF=>?_) (fun h5 hF=>?_)
  ·obtain⟨v6,h7,hF⟩:=aZ hF vM
   refine go ?_ ?_
   refine aF (fK (is:=[0]) (xs:=[.tmp 24]) (ps:=[.va (aA.e v6)]) rfl tyB42 rfl rfl ⟨trivial,trivial⟩ rfl) zU1 ?_
   exact bV
  refine go ?_ ?_
  refine aD hF rfl (fun h8 hF=>?_) (fun h8 hF=>?_)
  ·exact bV
  refine go ?_ ?_
  refine aD hF rfl (fun h9 hF=>?_) (fun h9 hF=>?_)
  ·exact bV
  obtain⟨v12,h13,hF⟩:=aZ hF jM
  obtain⟨v14,h15,hF⟩:=aZ hF jM
  refine go ?_ ?_
  refine dr [0,1,0,7,0,0,63,127] 6 2 ?_ (fun bs11 G10=>?_)
  obtain⟨v18,h19,hF⟩:=aZ hF fF
  obtain⟨v20,h21,hF⟩:=aZ hF fF
  obtain⟨v22,h23,hF⟩:=aZ hF vM
  obtain⟨v24,h25,hF⟩:=aZ hF fF
  obtain⟨v26,h27,hF⟩:=aZ hF rF
  refine go ?_ ?_
  refine dr [0,1,0,7,0,16,0,127,255,0,0,2047,4095,8191] 13 1 ?_ (fun bs17 G16=>?_)
  exact bV
 refine go ?_ ?_
 refine tT rfl ?_
 refine go ?_ ?_
 refine aD hF rfl (fun h28 hF=>?_) (fun h28 hF=>?_)
 ·exact bV
 refine go ?_ ?_
 refine aD hF rfl (fun h29 hF=>?_) (fun h29 hF=>?_)
 ·exact bV
 obtain⟨v32,h33,hF⟩:=aZ hF jM
 obtain⟨v34,h35,hF⟩:=aZ hF jM
 refine go ?_ ?_
 refine dr [0,1,0,7,0,0,63,127] 6 2 ?_ (fun bs31 G30=>?_)
 obtain⟨v38,h39,hF⟩:=aZ hF fF
 obtain⟨v40,h41,hF⟩:=aZ hF fF
 obtain⟨v42,h43,hF⟩:=aZ hF vM
 obtain⟨v44,h45,hF⟩:=aZ hF fF
 obtain⟨v46,h47,hF⟩:=aZ hF rF
 refine go ?_ ?_
 refine dr [0,1,0,7,0,16,0,127,255,0,0,2047,4095,8191] 13 1 ?_ (fun bs37 G36=>?_)
 exact bV
abbrev aHJ:Nat:=72
def xM (K:Nat) (a0:bQ) (a1:bQ):Option bQ:=
 bif((a0.p.d.length:Int)==0) then(some (⟨(⟨false,([]:List Int)⟩:aA),(⟨false,([]:List Int)⟩:aA)⟩:bQ)) else(bif((a1.p.d.length:Int)==0) then(some (⟨(⟨false,([]:List Int)⟩:aA),(⟨false,([]:List Int)⟩:aA)⟩:bQ)) else(bif((a0.q.d.length:Int)==0) then(bif((a1.q.d.length:Int)==0) then((bK K a0.p a1.p).bind fun v8=>some (⟨v8,(⟨false,([]:List Int)⟩:aA)⟩:bQ)) else((dN a1).bind fun v12=>(iA K a0.p v12).bind fun v14=>(dN a0).bind fun v16=>(iA K a1.p v16).bind fun v18=>(bK K v14.p v18.p).bind fun v22=>(dN v14).bind fun v24=>(dN v18).bind fun v26=>(bK K v24 v26).bind fun v28=>(lM v22 v28).bind fun v30=>some v30)) else((dN a1).bind fun v34=>(iA K a0.p v34).bind fun v36=>(dN a0).bind fun v38=>(iA K a1.p v38).bind fun v40=>(bK K v36.p v40.p).bind fun v44=>(dN v36).bind fun v46=>(dN v40).bind fun v48=>(bK K v46 v48).bind fun v50=>(lM v44 v50).bind fun v52=>some v52)))
theorem aCE {K:Nat} {a0:bQ} {a1:bQ} {r:bQ} (hF:xM K a0 a1=some r):Ct Tryz.prog 72 [.va (bQ.e a0),.va (bQ.e a1)] (.va (bQ.e r)):=by
 unfold xM at hF
 refine aB Tryz.func72 rfl (by kernel_rfl) Tryz.ntmps72 rfl (fun w0 M0=>?_)
 refine aC (aJ (dE rfl rfl trivial (fun b1=>?_)))
 refine dE rfl rfl trivial (fun b2=>?_)
 refine aE rfl tyZ42 (fun b3=>?_)
 refine go ?_ ?_
 refine dG hF (fun h4 hF=>?_) (fun h4 hF=>?_)
 ·refine go ?_ ?_
  refine iR rfl ?_
  refine aC (aJ (aF (fK (is:=[]) (xs:=[]) (ps:=[]) rfl tyB42 rfl rfl trivial rfl) trivial ?_))
  exact bV
 refine go ?_ ?_
 refine aD hF rfl (fun h5 hF=>?_) (fun h5 hF=>?_)
 ·refine aC (aJ (aF (fK (is:=[]) (xs:=[]) (ps:=[]) rfl tyB42 rfl rfl trivial rfl) trivial ?_))
  exact bV
 refine go ?_ ?_
 refine dG hF (fun h6 hF=>?_) (fun h6 hF=>?_)
 ·refine go ?_ ?_
  refine aD hF rfl (fun h7 hF=>?_) (fun h7 hF=>?_)
  ·obtain⟨v8,h9,hF⟩:=aZ hF fF
   refine go ?_ ?_
   refine aF (fK (is:=[0]) (xs:=[.tmp 36]) (ps:=[.va (aA.e v8)]) rfl tyB42 rfl rfl ⟨trivial,trivial⟩ rfl) zU1 ?_
   exact bV
  obtain⟨v12,h13,hF⟩:=aZ hF jM
  obtain⟨v14,h15,hF⟩:=aZ hF rF
  obtain⟨v16,h17,hF⟩:=aZ hF jM
  obtain⟨v18,h19,hF⟩:=aZ hF rF
  refine go ?_ ?_
  refine dr [0,1,0,4,15,0,32,0,159,511,0,0,4095,8191] 12 2 ?_ (fun bs11 G10=>?_)
  obtain⟨v22,h23,hF⟩:=aZ hF fF
  obtain⟨v24,h25,hF⟩:=aZ hF jM
  obtain⟨v26,h27,hF⟩:=aZ hF jM
  obtain⟨v28,h29,hF⟩:=aZ hF fF
  obtain⟨v30,h31,hF⟩:=aZ hF sE
  refine go ?_ ?_
  refine dr [0,1,0,4,15,0,63,0,255,511,1023,2047] 11 1 ?_ (fun bs21 G20=>?_)
  exact bV
 refine go ?_ ?_
 refine tT rfl ?_
 obtain⟨v34,h35,hF⟩:=aZ hF jM
 obtain⟨v36,h37,hF⟩:=aZ hF rF
 obtain⟨v38,h39,hF⟩:=aZ hF jM
 obtain⟨v40,h41,hF⟩:=aZ hF rF
 refine go ?_ ?_
 refine dr [0,1,0,4,15,0,32,0,159,511,0,0,4095,8191] 12 2 ?_ (fun bs33 G32=>?_)
 obtain⟨v44,h45,hF⟩:=aZ hF fF
 obtain⟨v46,h47,hF⟩:=aZ hF jM
 obtain⟨v48,h49,hF⟩:=aZ hF jM
 obtain⟨v50,h51,hF⟩:=aZ hF fF
 obtain⟨v52,h53,hF⟩:=aZ hF sE
 refine go ?_ ?_
 refine dr [0,1,0,4,15,0,63,0,255,511,1023,2047] 11 1 ?_ (fun bs43 G42=>?_)
 exact bV
abbrev aAR:Nat:=74
def qR (K:Nat) (a0:bQ) (a1:bQ):Option bQ:=
 (fJ K a0.p a1.p).bind fun v6=>(fL K a0).bind fun v8=>(fL K a1).bind fun v10=>(fJ K v8 v10).bind fun v12=>(fX K v6 v12).bind fun v14=>some v14
theorem aAm {K:Nat} {a0:bQ} {a1:bQ} {r:bQ} (hF:qR K a0 a1=some r):Ct Tryz.prog 74 [.va (bQ.e a0),.va (bQ.e a1)] (.va (bQ.e r)):=by
 unfold qR at hF
 refine aB Tryz.func74 rfl (by kernel_rfl) Tryz.ntmps74 rfl (fun w0 M0=>?_)
 refine aC (aJ (dE rfl rfl trivial (fun b1=>?_)))
 refine dE rfl rfl trivial (fun b2=>?_)
 refine aE rfl tyZ42 (fun b3=>?_)
 obtain⟨v6,h7,hF⟩:=aZ hF lI
 obtain⟨v8,h9,hF⟩:=aZ hF lD
 obtain⟨v10,h11,hF⟩:=aZ hF lD
 obtain⟨v12,h13,hF⟩:=aZ hF lI
 obtain⟨v14,h15,hF⟩:=aZ hF sA
 refine go ?_ ?_
 refine dr [0,1,0,4,15,0,63,0,255,511,1023,2047] 11 1 ?_ (fun bs5 G4=>?_)
 exact bV
abbrev aH8:Nat:=78
def zJ (K:Nat) (a0:bQ) (a1:bQ):Option bQ:=
 bif((a1.p.d.length:Int)==0) then(some (⟨(⟨false,([]:List Int)⟩:aA),(⟨false,([]:List Int)⟩:aA)⟩:bQ)) else((dN a1).bind fun v7=>(lM v7 a1.p).bind fun v9=>(xM K a0 v9).bind fun v11=>some v11)
theorem aGg {K:Nat} {a0:bQ} {a1:bQ} {r:bQ} (hF:zJ K a0 a1=some r):Ct Tryz.prog 78 [.va (bQ.e a0),.va (bQ.e a1)] (.va (bQ.e r)):=by
 unfold zJ at hF
 refine aB Tryz.func78 rfl (by kernel_rfl) Tryz.ntmps78 rfl (fun w0 M0=>?_)
 refine aC (aJ (dE rfl rfl trivial (fun b1=>?_)))
 refine dE rfl rfl trivial (fun b2=>?_)
 refine aE rfl tyZ42 (fun b3=>?_)
 refine go ?_ ?_
 refine aD hF rfl (fun h4 hF=>?_) (fun h4 hF=>?_)
 ·refine aC (aJ (aF (fK (is:=[]) (xs:=[]) (ps:=[]) rfl tyB42 rfl rfl trivial rfl) trivial ?_))
  exact bV
 obtain⟨v7,h8,hF⟩:=aZ hF jM
 obtain⟨v9,h10,hF⟩:=aZ hF sE
 obtain⟨v11,h12,hF⟩:=aZ hF aCE
 refine go ?_ ?_
 refine dr [0,0,2,0,8,30,63,127] 7 1 ?_ (fun bs6 G5=>?_)
 exact bV
abbrev aHI:Nat:=79
def zH (K:Nat) (a0:bQ) (a1:bQ):Option bQ:=
 (xN a1).bind fun v6=>(xH K a0 v6).bind fun v8=>some v8
theorem aFW {K:Nat} {a0:bQ} {a1:bQ} {r:bQ} (hF:zH K a0 a1=some r):Ct Tryz.prog 79 [.va (bQ.e a0),.va (bQ.e a1)] (.va (bQ.e r)):=by
 unfold zH at hF
 refine aB Tryz.func79 rfl (by kernel_rfl) Tryz.ntmps79 rfl (fun w0 M0=>?_)
 refine aC (aJ (dE rfl rfl trivial (fun b1=>?_)))
 refine dE rfl rfl trivial (fun b2=>?_)
 refine aE rfl tyZ42 (fun b3=>?_)
 obtain⟨v6,h7,hF⟩:=aZ hF aCq
 obtain⟨v8,h9,hF⟩:=aZ hF aCR
 refine go ?_ ?_
 refine dr [0,0,2,7,15] 4 1 ?_ (fun bs5 G4=>?_)
 exact bV
abbrev aC3:Nat:=87
def uG (K:Nat) (a0:bQ) (a1:bQ):Option Int:=
 (uD a0).bind fun v5=>(uD a1).bind fun v7=>bif(v5 != v7) then((kM v5).bind fun v10=>(kM v7).bind fun v12=>(kO K v10 v12).bind fun v14=>some v14) else(bif(v5==0) then((kM v5).bind fun v17=>(kM v7).bind fun v19=>(kO K v17 v19).bind fun v21=>some v21) else((dN a1).bind fun v25=>(bK K a0.p v25).bind fun v27=>(dN a0).bind fun v29=>(bK K a1.p v29).bind fun v31=>(kO K v27 v31).bind fun v33=>some v33))
theorem aCK {K:Nat} {a0:bQ} {a1:bQ} {r:Int} (hF:uG K a0 a1=some r):Ct Tryz.prog 87 [.va (bQ.e a0),.va (bQ.e a1)] (.vc (pI .i64 r)):=by
 unfold uG at hF
 refine aB Tryz.func87 rfl (by kernel_rfl) Tryz.ntmps87 rfl (fun w0 M0=>?_)
 refine aC (aJ (dE rfl rfl trivial (fun b1=>?_)))
 refine dE rfl rfl trivial (fun b2=>?_)
 obtain⟨v5,h6,hF⟩:=aZ hF yV
 obtain⟨v7,h8,hF⟩:=aZ hF yV
 refine go ?_ ?_
 refine dr [0,1,0,7,15,31] 6 0 ?_ (fun bs4 G3=>?_)
 refine go ?_ ?_
 refine dG hF (fun h9 hF=>?_) (fun h9 hF=>?_)
 ·refine go ?_ ?_
  refine iR rfl ?_
  obtain⟨v10,h11,hF⟩:=aZ hF oO
  obtain⟨v12,h13,hF⟩:=aZ hF oO
  obtain⟨v14,h15,hF⟩:=aZ hF s0
  exact bV
 refine go ?_ ?_
 refine aD hF rfl (fun h16 hF=>?_) (fun h16 hF=>?_)
 ·obtain⟨v17,h18,hF⟩:=aZ hF oO
  obtain⟨v19,h20,hF⟩:=aZ hF oO
  obtain⟨v21,h22,hF⟩:=aZ hF s0
  exact bV
 obtain⟨v25,h26,hF⟩:=aZ hF jM
 obtain⟨v27,h28,hF⟩:=aZ hF fF
 obtain⟨v29,h30,hF⟩:=aZ hF jM
 obtain⟨v31,h32,hF⟩:=aZ hF fF
 obtain⟨v33,h34,hF⟩:=aZ hF s0
 refine go ?_ ?_
 refine dr [0,1,0,4,15,0,32,0,159,511,1023,2047] 12 0 ?_ (fun bs24 G23=>?_)
 refine aV (aH ?_)
 exact bV
abbrev aFa:Nat:=93
def wL (K:Nat) (a0:bQ):Option Bool:=
 (mN K a0.p).bind fun v2=>bif(!v2) then(some false) else((mN K a0.q).bind fun v5=>bif(!v5) then(some false) else(bif a0.q.neg then(some false) else((pV a0.q).bind fun v9=>bif v9 then(some false) else(bif((a0.q.d.length:Int)==0) then(some true) else((qE K a0.p a0.q).bind fun v13=>(pV v13).bind fun v15=>some v15)))))
theorem aEe {K:Nat} {a0:bQ} {r:Bool} (hF:wL K a0=some r):Ct Tryz.prog 93 [.va (bQ.e a0)] (.vc (pB r)):=by
 unfold wL at hF
 refine aB Tryz.func93 rfl (by kernel_rfl) Tryz.ntmps93 rfl (fun w0 M0=>?_)
 refine aC (aJ (dE rfl rfl trivial (fun b1=>?_)))
 refine go ?_ ?_
 refine aK ?_
 obtain⟨v2,h3,hF⟩:=aZ hF w6
 refine go ?_ ?_
 refine dG hF (fun h4 hF=>?_) (fun h4 hF=>?_)
 ·refine go ?_ ?_
  refine iR rfl ?_
  exact bV
 obtain⟨v5,h6,hF⟩:=aZ hF w6
 refine go ?_ ?_
 refine dG hF (fun h7 hF=>?_) (fun h7 hF=>?_)
 ·refine go ?_ ?_
  refine iR rfl ?_
  exact bV
 refine go ?_ ?_
 refine dG hF (fun h8 hF=>?_) (fun h8 hF=>?_)
 ·refine go ?_ ?_
  refine iR rfl ?_
  exact bV
 obtain⟨v9,h10,hF⟩:=aZ hF uO
 refine go ?_ ?_
 refine aD hF rfl (fun h11 hF=>?_) (fun h11 hF=>?_)
 ·exact bV
 refine go ?_ ?_
 refine aD hF rfl (fun h12 hF=>?_) (fun h12 hF=>?_)
 ·exact bV
 obtain⟨v13,h14,hF⟩:=aZ hF zD
 obtain⟨v15,h16,hF⟩:=aZ hF uO
 exact bV
end Go.Proofs.YtolfcbpgmfbgmaaGreat
set_option linter.unusedVariables false
set_option maxRecDepth 100000
namespace Go.Proofs.YtolfcbpgmfbgmaaGreat
end Go.Proofs.YtolfcbpgmfbgmaaGreat
set_option linter.unusedVariables false
namespace Go.Proofs.YtolfcbpgmfbgmaaGreat
open Rat
theorem Z0:Z 0=(⟨false,[]⟩:aA):=by rw [show(0:Int)=((0:Nat):Int) from rfl,←l4];rfl
theorem aG4 {x y:Int} (h:Z x=Z y):x=y:=by
 have h1:decide (x<0)=decide (y<0):=congrArg aA.neg h
 have h2:bL x.natAbs=bL y.natAbs:=congrArg aA.d h
 have h3:(x.natAbs:Int)=y.natAbs:=by rw [←dJ,←dJ,h2]
 have h4:(x<0)↔(y<0):=by simpa using h1
 omega
theorem aBE {x:Int}:(((Z x).d.length:Int)==0)=decide (x=0):=by
 rw [pG]
 by_cases h:x=0
 ·rw [dT h];subst h;rw [show Int.natAbs 0=0 from rfl,uF];rfl
 ·have:dl x.natAbs≠0:=by rw [Ne,tL];omega
  rw [dF h,qF (by omega)]
theorem dl1:dl 1=1:=by
 unfold dl;rw [aHi (by decide) (by decide)];rfl
theorem y0 (x:Int):pV (Z x)=some (decide (x=1)):=by
 unfold pV
 rw [tE]
 by_cases h:x<0
 ·rw [dT h,dF (p:=x=1) (by omega)];simp
 ·rw [dF h]
  simp only [Bool.not_false,cU,Z_d]
  by_cases h1:(bL x.natAbs).length=1
  ·obtain⟨a1,a2⟩:=y8 h1
   have e:=cE (xs:=bL x.natAbs) (i:=0) (by omega)
   rw [a1] at e
   simp only [Int.natCast_zero] at e
   rw [qT (by omega),cU,e,oB]
   by_cases h2:x=1
   ·rw [dT h2,qT (by omega)]
   ·rw [dF h2,qF (by omega)]
  ·rw [qF (by omega),cP,dF]
   intro e;subst e;exact h1 dl1
theorem aER (x:Int):mF (Z x)=some (decide (x=1)):=by
 unfold mF
 rw [tE]
 by_cases h:x<0
 ·rw [dT h,dF (p:=x=1) (by omega)];rfl
 ·rw [dF h]
  simp only [cP,Z_d]
  by_cases h1:(bL x.natAbs).length=1
  ·obtain⟨a1,a2⟩:=y8 h1
   have e:=cE (xs:=bL x.natAbs) (i:=0) (by omega)
   rw [a1] at e
   simp only [Int.natCast_zero] at e
   rw [nF (by omega),cP,e,oB]
   by_cases h2:x=1
   ·rw [dT h2,qT (by omega)]
   ·rw [dF h2,qF (by omega)]
  ·rw [nT (by omega),cU,dF]
   intro e;subst e;exact h1 dl1
theorem aMn {p q:Int} (hq:0<q) (hg:Int.gcd p q=1):(p/. q).num=p∧(p/. q).den=q.natAbs:=by
 rw [Rat.num_divInt,Rat.den_divInt,Int.gcd_comm,hg,if_neg (by omega),Int.sign_eq_one_of_pos hq]
 simp
theorem aCz {p q:Int} (hq:0<q) (hg:Int.gcd p q=1):Qr (p/. q)=⟨Z p,if q=1 then⟨false,[]⟩ else Z q⟩:=by
 obtain⟨h1,h2⟩:=aMn hq hg
 rw [aAp,h1,h2]
 by_cases h:q=1
 ·rw [if_pos h,if_pos (by omega)]
 ·rw [if_neg h,if_neg (by omega),show(q.natAbs:Int)=q by omega]
theorem xW {p q:Int} (hq:q≠0) (hg:Int.gcd p q=1):lM (Z p) (Z q)=some (Qr (p/. q)):=by
 unfold lM
 rw [tE]
 by_cases h:q<0
 ·rw [dT h]
  simp only [cU,aHa,oB,y0]
  rw [←Rat.neg_divInt_neg,aCz (by omega) (by simpa using hg)]
  by_cases h1:-q=1
  ·rw [dT h1,if_pos h1];rfl
  ·rw [dF h1,if_neg h1];rfl
 ·rw [dF h]
  simp only [cP,y0,oB]
  rw [aCz (by omega) hg]
  by_cases h1:q=1
  ·rw [dT h1,if_pos h1];rfl
  ·rw [dF h1,if_neg h1];rfl
theorem aDM {p q:Int} (hq:q≠0):∃a b:Int,∃g:Nat,Int.gcd p q=g∧0<g∧p=a*g∧q=b*g∧Int.gcd a b=1∧b≠0∧p/(g:Int)=a∧q/(g:Int)=b:=by
 have hg:0<Int.gcd p q:=Int.gcd_pos_of_ne_zero_right p hq
 obtain⟨a,ha⟩:=Int.gcd_dvd_left (a:=p) (b:=q)
 obtain⟨b,hb⟩:=Int.gcd_dvd_right (a:=p) (b:=q)
 have hgz:((Int.gcd p q:Nat):Int)≠0:=by omega
 have q1:p/((Int.gcd p q:Nat):Int)=a:=by
  have:((Int.gcd p q:Nat):Int)*a/((Int.gcd p q:Nat):Int)=a:=Int.mul_ediv_cancel_left _ hgz
  rwa [←ha] at this
 have q2:q/((Int.gcd p q:Nat):Int)=b:=by
  have:((Int.gcd p q:Nat):Int)*b/((Int.gcd p q:Nat):Int)=b:=Int.mul_ediv_cancel_left _ hgz
  rwa [←hb] at this
 refine⟨a,b,Int.gcd p q,rfl,hg,by rw [Int.mul_comm];exact ha,by rw [Int.mul_comm];exact hb,?_,?_,q1,q2⟩
 ·have h:=Int.gcd_mul_left (Int.gcd p q) a b
  rw [←ha,←hb] at h
  simp only [Int.natAbs_natCast] at h
  have:Int.gcd p q*1=Int.gcd p q*Int.gcd a b:=by omega
  exact(Nat.eq_of_mul_eq_mul_left hg this).symm
 ·intro e;rw [e] at hb;simp at hb;exact hq hb
theorem xZ:Qr 0=⟨⟨false,[]⟩,⟨false,[]⟩⟩:=Qr0
theorem aJK {p q:Int} (hq:q≠0):dl (Int.gcd p q)≤dl q.natAbs:=n9 (Nat.le_of_dvd (by omega) (Nat.gcd_dvd_right _ _))
theorem aA4 {p q:Int} (hq:q≠0) (hp1:dl p.natAbs≤20000000000) (hq1:dl q.natAbs≤20000000000):Ev (fun K=>iA K (Z p) (Z q)) (Qr (p/. q)):=by
 unfold iA
 simp only [aBE,dF hq,cP]
 by_cases hp:p=0
 ·subst hp
  simp only [Rat.zero_divInt,xZ]
  exact Ev.pure _
 ·simp only [dF hp,cP]
  obtain⟨a,b,g,h1,h2,h3,h4,h5,h6,h7,h8⟩:=aDM (p:=p) hq
  have hgl:=aJK (p:=p) hq
  rw [h1] at hgl
  refine Ev.bind (aGI (by omega) (by omega)) ?_
  rw [h1]
  simp only [y0,oB]
  have he:p/. q=a/. b:=by
   rw [h3,h4]
   exact Rat.divInt_mul_right (by omega)
  by_cases hg:g=1
  ·have e:(!decide ((g:Int)=1))=false:=by rw [dT (by omega)];rfl
   simp only [e,cP]
   rw [xW hq (by rw [h1];exact hg)]
   exact Ev.pure _
  ·have e:(!decide ((g:Int)=1))=true:=by rw [dF (by omega)];rfl
   simp only [e,cU]
   refine Ev.bind (aHn (by omega) (by omega) (by simp;omega)) (Ev.bind (aHn (by omega) (by omega) (by simp;omega)) ?_)
   simp only [h7,h8]
   rw [xW h6 h5,he]
   exact Ev.pure _
theorem aH0 (p:Int):Ev (fun K=>iA K (Z p) (Z 0)) (Qr 0):=by
 unfold iA
 simp only [aBE,xZ]
 exact Ev.pure _
theorem aBo {p q:Int} (hq:q≠0) (hp1:dl p.natAbs≤20000000000) (hq1:dl q.natAbs≤20000000000):Ev (fun K=>fX K (Z p) (Z q)) (Qr (p/. q)):=by
 unfold fX
 simp only [aBE,dF hq,cP]
 by_cases hp:p=0
 ·subst hp
  simp only [Rat.zero_divInt,xZ]
  exact Ev.pure _
 ·simp only [dF hp,cP]
  obtain⟨a,b,g,h1,h2,h3,h4,h5,h6,h7,h8⟩:=aDM (p:=p) hq
  have hgl:=aJK (p:=p) hq
  rw [h1] at hgl
  have hal:dl a.natAbs≤dl p.natAbs:=n9 (by
   rw [h3,Int.natAbs_mul,Int.natAbs_natCast]
   exact Nat.le_mul_of_pos_right _ h2)
  have hbl:dl b.natAbs≤dl q.natAbs:=n9 (by
   rw [h4,Int.natAbs_mul,Int.natAbs_natCast]
   exact Nat.le_mul_of_pos_right _ h2)
  refine Ev.bind (aIi (by omega) (by omega)) ?_
  rw [h1]
  have he:p/. q=a/. b:=by
   rw [h3,h4]
   exact Rat.divInt_mul_right (by omega)
  refine Ev.bind (aCp (by omega) (by omega) (by simp;omega)) (Ev.bind (aCp (by omega) (by omega) (by simp;omega)) ?_)
  simp only [h7,h8,tE]
  rw [he]
  by_cases hb:b<0
  ·simp only [dT hb,cU]
   refine Ev.bind (aCb a (by omega)) (Ev.bind (aCb b (by omega)) ?_)
   simp only [aER,oB]
   rw [←Rat.neg_divInt_neg,aCz (by omega) (by simpa using h5)]
   by_cases h9:-b=1
   ·simp only [dT h9,if_pos h9,cU];exact Ev.pure _
   ·simp only [dF h9,if_neg h9,cP];exact Ev.pure _
  ·simp only [dF hb,cP,aER,oB]
   rw [aCz (by omega) h5]
   by_cases h9:b=1
   ·simp only [dT h9,if_pos h9,cU];exact Ev.pure _
   ·simp only [dF h9,if_neg h9,cP];exact Ev.pure _
theorem aF2 (p:Int):Ev (fun K=>fX K (Z p) (Z 0)) (Qr 0):=by
 unfold fX
 simp only [aBE,xZ]
 exact Ev.pure _
theorem Qp (a:Rat):(Qr a).p=Z a.num:=by rw [aAp]
theorem Qq (a:Rat):(Qr a).q=if a.den=1 then⟨false,[]⟩ else Z a.den:=by rw [aAp]
theorem aD4 (a:Rat):(((Qr a).q.d.length:Int)==0)=decide (a.den=1):=by
 rw [Qq]
 by_cases h:a.den=1
 ·rw [if_pos h,dT h];rfl
 ·rw [if_neg h,dF h,aBE,dF]
  have:=a.den_nz
  omega
theorem aMC {a b:Rat} (h:Qr a=Qr b):a=b:=by
 have h1:Z a.num=Z b.num:=by rw [←Qp,←Qp,h]
 have h2:=congrArg bQ.q h
 rw [Qq,Qq] at h2
 have h3:=aG4 h1
 have h4:a.den=b.den:=by
  by_cases ha:a.den=1
  ·by_cases hb:b.den=1
   ·omega
   ·rw [if_pos ha,if_neg hb,←Z0] at h2
    have:=aG4 h2
    have:=b.den_nz
    omega
  ·by_cases hb:b.den=1
   ·rw [if_neg ha,if_pos hb,←Z0] at h2
    have:=aG4 h2
    have:=a.den_nz
    omega
   ·rw [if_neg ha,if_neg hb] at h2
    have:=aG4 h2
    omega
 exact Rat.ext h3 h4
theorem aBc (a:Rat):dN (Qr a)=some (Z a.den):=by
 unfold dN zV
 rw [aD4]
 by_cases h:a.den=1
 ·rw [dT h,cU,aCh (by omega),oB,oB,h];rfl
 ·rw [dF h,cP,Qq,if_neg h]
theorem w7 (a:Rat):Ev (fun K=>fL K (Qr a)) (Z a.den):=by
 unfold fL
 rw [aD4]
 by_cases h:a.den=1
 ·simp only [dT h,cU]
  rw [h]
  exact Ev.bind (xS (by omega)) (Ev.pure _)
 ·simp only [dF h,cP]
  rw [Qq,if_neg h]
  exact Ev.pure _
theorem uK {a:Rat} (h:qs a=true):dl a.num.natAbs≤40000000∧dl a.den≤40000000:=by
 unfold qs at h
 simp only [Bool.and_eq_true,Nat.ble_eq] at h
 have h1:=aJG a.num.natAbs
 have h2:=aJG a.den
 omega
theorem aEi (a b:Rat):a+b=(a.num*b.den+b.num*a.den)/. (a.den*b.den):=by
 have ha:=a.den_nz
 have hb:=b.den_nz
 conv=>lhs;rw [←Rat.num_divInt_den a,←Rat.num_divInt_den b]
 exact Rat.divInt_add_divInt _ _ (by omega) (by omega)
theorem aCs (a b:Rat):a*b=(a.num*b.num)/. (a.den*b.den):=by
 conv=>lhs;rw [←Rat.num_divInt_den a,←Rat.num_divInt_den b]
 exact Rat.divInt_mul_divInt _ _
theorem aIB (n:Int):Qr (n/. 1)=⟨Z n,⟨false,[]⟩⟩:=by
 rw [aCz (by omega) (by simp)];rfl
theorem zZ {a b:Rat} (ha:qs a=true) (hb:qs b=true):dl (a.num*b.den).natAbs≤80000000∧dl (b.num*a.den).natAbs≤80000000∧dl (a.num*b.den+b.num*a.den).natAbs≤80000001∧dl ((a.den:Int)*b.den).natAbs≤80000000∧dl (a.num*b.num).natAbs≤80000000∧((a.den:Int)*b.den)≠0:=by
 obtain⟨a1,a2⟩:=uK ha
 obtain⟨b1,b2⟩:=uK hb
 have m1:=aC1 a.num.natAbs b.den
 have m2:=aC1 b.num.natAbs a.den
 have m3:=aC1 a.den b.den
 have m4:=aC1 a.num.natAbs b.num.natAbs
 have e1:(a.num*b.den).natAbs=a.num.natAbs*b.den:=by rw [Int.natAbs_mul,Int.natAbs_natCast]
 have e2:(b.num*a.den).natAbs=b.num.natAbs*a.den:=by rw [Int.natAbs_mul,Int.natAbs_natCast]
 have e3:((a.den:Int)*b.den).natAbs=a.den*b.den:=by rw [Int.natAbs_mul,Int.natAbs_natCast,Int.natAbs_natCast]
 have e4:(a.num*b.num).natAbs=a.num.natAbs*b.num.natAbs:=Int.natAbs_mul _ _
 have hs:dl (a.num*b.den+b.num*a.den).natAbs≤80000001:=by
  have h1:dl ((a.num*b.den).natAbs+(b.num*a.den).natAbs)≤80000000+1:=aMx (by rw [e1];omega) (by rw [e2];omega)
  exact Nat.le_trans (n9 (Int.natAbs_add_le _ _)) h1
 refine⟨by rw [e1];omega,by rw [e2];omega,hs,by rw [e3];omega,by rw [e4];omega,?_⟩
 have h1:=a.den_nz
 have h2:=b.den_nz
 exact Int.mul_ne_zero (by omega) (by omega)
theorem aGB {a b:Rat} (ha:qs a=true) (hb:qs b=true):Ev (fun K=>xH K (Qr a) (Qr b)) (Qr (a+b)):=by
 obtain⟨a1,a2⟩:=uK ha
 obtain⟨b1,b2⟩:=uK hb
 obtain⟨c1,c2,c3,c4,c5,c6⟩:=zZ ha hb
 have key:Ev (fun K=>(dN (Qr a)).bind fun v12=>(dN (Qr b)).bind fun v14=>(bK K (Z a.num) v14).bind fun v18=>(bK K (Z b.num) v12).bind fun v20=>(lO K v18 v20).bind fun v22=>(bK K v12 v14).bind fun v24=>(iA K v22 v24).bind fun v26=>some v26) (Qr (a+b)):=by
  simp only [aBc,oB]
  refine Ev.bind (wF (by simp;omega)) (Ev.bind (wF (by simp;omega)) (Ev.bind (aGG (by omega) (by omega)) (Ev.bind (wF (by simp;omega)) (Ev.bind (aA4 c6 (by omega) (by omega)) ?_))))
  rw [←aEi]
  exact Ev.pure _
 have key2:Ev (fun K=>bif decide (a.num=0) then some (Qr b) else bif decide (b.num=0) then some (Qr a) else(dN (Qr a)).bind fun v12=>(dN (Qr b)).bind fun v14=>(bK K (Z a.num) v14).bind fun v18=>(bK K (Z b.num) v12).bind fun v20=>(lO K v18 v20).bind fun v22=>(bK K v12 v14).bind fun v24=>(iA K v22 v24).bind fun v26=>some v26) (Qr (a+b)):=by
  by_cases h1:a.num=0
  ·simp only [dT h1,cU]
   rw [Rat.num_eq_zero.1 h1,Rat.zero_add]
   exact Ev.pure _
  ·simp only [dF h1,cP]
   by_cases h2:b.num=0
   ·simp only [dT h2,cU]
    rw [Rat.num_eq_zero.1 h2,Rat.add_zero]
    exact Ev.pure _
   ·simp only [dF h2,cP]
    exact key
 unfold xH
 simp only [aD4,Qp,aBE]
 by_cases h1:a.den=1
 ·simp only [dT h1,cU]
  by_cases h2:b.den=1
  ·simp only [dT h2,cU]
   refine Ev.bind (aGG (by omega) (by omega)) ?_
   have:a+b=(a.num+b.num)/. 1:=by
    rw [aEi,h1,h2];simp
   rw [this,aIB]
   exact Ev.pure _
  ·simp only [dF h2,cP]
   exact key2
 ·simp only [dF h1,cP]
  exact key2
theorem aDT {n:Int} {d e:Nat} (h:(n/. (d:Int)).den=e) (hd:d≠0):e∣d:=by
 rw [Rat.den_divInt,if_neg (by omega)] at h
 rw [←h]
 simp only [Int.natAbs_natCast]
 exact Nat.div_dvd_of_dvd (by rw [Int.gcd_comm];exact Nat.gcd_dvd_right _ _)
theorem aEB {n:Int} {d:Nat} (hd:d≠0):(n/. (d:Int)).num.natAbs∣n.natAbs:=by
 rw [Rat.num_divInt,Int.sign_eq_one_of_pos (by omega),Int.one_mul]
 rw [Int.gcd_comm]
 obtain⟨c,hc⟩:=Int.gcd_dvd_left (a:=n) (b:=(d:Int))
 have hg:0<Int.gcd n d:=Int.gcd_pos_of_ne_zero_right n (by omega)
 generalize Int.gcd n d=g at *
 have e:n/(g:Int)=c:=by rw [hc];exact Int.mul_ediv_cancel_left _ (by omega)
 rw [e,hc,Int.natAbs_mul]
 exact Nat.dvd_mul_left _ _
theorem aKw {a b:Rat}:Int.gcd ((a.num/. b.den).num*(b.num/. a.den).num) (((a.num/. b.den).den:Int)*(b.num/. a.den).den)=1:=by
 have ha:=a.den_nz
 have hb:=b.den_nz
 have h1:=(a.num/. b.den).reduced
 have h2:=(b.num/. a.den).reduced
 have ra:=a.reduced
 have rb:=b.reduced
 have n1:(a.num/. (b.den:Int)).num.natAbs∣a.num.natAbs:=aEB hb
 have n2:(b.num/. (a.den:Int)).num.natAbs∣b.num.natAbs:=aEB ha
 have d1:(a.num/. (b.den:Int)).den∣b.den:=aDT rfl hb
 have d2:(b.num/. (a.den:Int)).den∣a.den:=aDT rfl ha
 have x1:Nat.Coprime (a.num/. (b.den:Int)).num.natAbs (b.num/. (a.den:Int)).den:=Nat.Coprime.coprime_dvd_left n1 (Nat.Coprime.coprime_dvd_right d2 ra)
 have x2:Nat.Coprime (b.num/. (a.den:Int)).num.natAbs (a.num/. (b.den:Int)).den:=Nat.Coprime.coprime_dvd_left n2 (Nat.Coprime.coprime_dvd_right d1 rb)
 show Nat.gcd _ _=1
 rw [Int.natAbs_mul,Int.natAbs_mul,Int.natAbs_natCast,Int.natAbs_natCast]
 exact Nat.Coprime.mul_left (Nat.Coprime.mul_right h1 x1) (Nat.Coprime.mul_right x2 h2)
theorem aGT {n:Int} {d:Nat} (hd:d≠0):dl (n/. (d:Int)).num.natAbs≤dl n.natAbs∧dl (n/. (d:Int)).den≤dl d:=by
 constructor
 ·by_cases h:n=0
  ·subst h;rw [Rat.zero_divInt];exact Nat.le_refl _
  ·exact n9 (Nat.le_of_dvd (by omega) (aEB hd))
 ·exact n9 (Nat.le_of_dvd (by omega) (aDT rfl hd))
theorem aHR {a b:Rat} (ha:qs a=true) (hb:qs b=true):Ev (fun K=>(dN (Qr b)).bind fun v12=>(iA K (Z a.num) v12).bind fun v14=>(dN (Qr a)).bind fun v16=>(iA K (Z b.num) v16).bind fun v18=>(bK K v14.p v18.p).bind fun v22=>(dN v14).bind fun v24=>(dN v18).bind fun v26=>(bK K v24 v26).bind fun v28=>(lM v22 v28).bind fun v30=>some v30) (Qr (a*b)):=by
 obtain⟨a1,a2⟩:=uK ha
 obtain⟨b1,b2⟩:=uK hb
 have ha0:=a.den_nz
 have hb0:=b.den_nz
 have p1:=aGT (n:=a.num) hb0
 have p2:=aGT (n:=b.num) ha0
 simp only [aBc,oB]
 refine Ev.bind (aA4 (by omega) (by omega) (by simp;omega)) (Ev.bind (aA4 (by omega) (by omega) (by simp;omega)) ?_)
 simp only [Qp]
 refine Ev.bind (wF (by omega)) ?_
 simp only [aBc,oB]
 refine Ev.bind (wF (by rw [Int.natAbs_natCast,Int.natAbs_natCast];omega)) ?_
 have e1:=(a.num/. (b.den:Int)).den_nz
 have e2:=(b.num/. (a.den:Int)).den_nz
 rw [xW (Int.mul_ne_zero (by omega) (by omega)) aKw,oB,←aCs]
 have:a.num/. (b.den:Int)*(b.num/. (a.den:Int))=a*b:=by
  rw [Rat.divInt_mul_divInt,aCs,Int.mul_comm (b.den:Int)]
 rw [this]
 exact Ev.pure _
theorem aHo {a b:Rat} (ha:qs a=true) (hb:qs b=true):Ev (fun K=>xM K (Qr a) (Qr b)) (Qr (a*b)):=by
 obtain⟨a1,a2⟩:=uK ha
 obtain⟨b1,b2⟩:=uK hb
 have key:=aHR ha hb
 unfold xM
 simp only [aD4,Qp,aBE]
 by_cases h1:a.num=0
 ·simp only [dT h1,cU]
  rw [Rat.num_eq_zero.1 h1,Rat.zero_mul,xZ]
  exact Ev.pure _
 ·simp only [dF h1,cP]
  by_cases h2:b.num=0
  ·simp only [dT h2,cU]
   rw [Rat.num_eq_zero.1 h2,Rat.mul_zero,xZ]
   exact Ev.pure _
  ·simp only [dF h2,cP]
   by_cases h3:a.den=1
   ·simp only [dT h3,cU]
    by_cases h4:b.den=1
    ·simp only [dT h4,cU]
     refine Ev.bind (wF (by omega)) ?_
     have:a*b=(a.num*b.num)/. 1:=by rw [aCs,h3,h4];rfl
     rw [this,aIB]
     exact Ev.pure _
    ·simp only [dF h4,cP]
     exact key
   ·simp only [dF h3,cP]
    exact key
theorem aHg (a:Rat):xN (Qr a)=some (Qr (-a)):=by
 unfold xN
 rw [Qp,aHa,oB]
 congr 1
 rw [aAp (-a),Rat.neg_num,Rat.neg_den,Qq]
theorem aL1 {a:Rat} (h:qs a=true):qs (-a)=true:=by
 unfold qs at *;rw [Rat.neg_num,Rat.neg_den,Int.natAbs_neg];exact h
theorem aKd {a b:Rat} (ha:qs a=true) (hb:qs b=true):Ev (fun K=>zH K (Qr a) (Qr b)) (Qr (a-b)):=by
 unfold zH
 simp only [aHg,oB]
 refine Ev.bind (aGB ha (aL1 hb)) ?_
 rw [Rat.sub_eq_add_neg]
 exact Ev.pure _
theorem aE0 (a:Rat):uD (Qr a)=some a.num.sign:=by
 unfold uD
 rw [Qp,aI7];rfl
theorem aD8 {b:Rat} (h:b.num≠0):b⁻¹=(b.den:Int)/. b.num:=Rat.inv_def b
theorem aMF {b:Rat} (hb:qs b=true):qs (b⁻¹)=true:=by
 by_cases h:b.num=0
 ·rw [Rat.num_eq_zero.1 h,Rat.inv_zero];decide
 ·have hc:Nat.gcd b.num.natAbs b.den=1:=b.reduced
  rw [aD8 h]
  unfold qs at *
  have e1:((b.den:Int)/. b.num).num.natAbs=b.den:=by
   rw [Rat.num_divInt]
   have:Int.gcd b.num b.den=1:=hc
   rw [this]
   simp only [Int.natCast_one,Int.ediv_one,Int.natAbs_mul,Int.natAbs_natCast,Int.natAbs_sign_of_ne_zero h,Nat.one_mul]
  have e2:((b.den:Int)/. b.num).den=b.num.natAbs:=by
   rw [Rat.den_divInt,if_neg h]
   have:Int.gcd b.num b.den=1:=hc
   rw [this,Nat.div_one]
  rw [e1,e2,Bool.and_comm]
  exact hb
theorem aKb {a b:Rat} (ha:qs a=true) (hb:qs b=true):Ev (fun K=>zJ K (Qr a) (Qr b)) (Qr (a/b)):=by
 unfold zJ
 simp only [Qp,aBE]
 by_cases h:b.num=0
 ·simp only [dT h,cU]
  rw [Rat.num_eq_zero.1 h,Rat.div_def,Rat.inv_zero,Rat.mul_zero,xZ]
  exact Ev.pure _
 ·simp only [dF h,cP,aBc,oB]
  have hc:Int.gcd (b.den:Int) b.num=1:=by rw [Int.gcd_comm];exact b.reduced
  rw [xW h hc,←aD8 h]
  simp only [oB]
  refine Ev.bind (aHo ha (aMF hb)) ?_
  rw [Rat.div_def]
  exact Ev.pure _
theorem aOk {a:Rat} (h:qs a=true):(Qr a).p.d.length≤9000000000000∧(Qr a).q.d.length≤9000000000000:=by
 obtain⟨a1,a2⟩:=uK h
 rw [Qp,Qq,pG]
 refine⟨by omega,?_⟩
 by_cases h:a.den=1
 ·rw [if_pos h];simp
 ·rw [if_neg h,pG];simp;omega
theorem aII (a b:Rat):(bif decide ((Qr a).p=(Qr b).p) then decide ((Qr a).q=(Qr b).q) else false)=decide (a=b):=by
 by_cases h:a=b
 ·subst h;simp
 ·rw [dF h]
  by_cases h1:(Qr a).p=(Qr b).p
  ·rw [dT h1,cU,dF]
   intro h2
   exact h (aMC (by cases hx:Qr a;cases hy:Qr b;rw [hx,hy] at h1 h2;simp_all))
  ·rw [dF h1];rfl
theorem aHK {a b:Rat} (ha:qs a=true) (hb:qs b=true):Ev (fun K=>qB K (Qr a) (Qr b)) (decide (a=b)):=by
 obtain⟨l1,l2⟩:=aOk ha
 unfold qB
 refine Ev.bind (aDq _ _ l1) ?_
 rw [←aII]
 by_cases h:(Qr a).p=(Qr b).p
 ·simp only [dT h,cU]
  exact Ev.bind (aDq _ _ l2) (Ev.pure _)
 ·simp only [dF h,cP]
  exact Ev.pure _
theorem aJz {a b:Rat} (ha:qs a=true) (hb:qs b=true):Ev (fun K=>qU K (Qr a) (Qr b)) (Qr (a+b)):=by
 obtain⟨a1,a2⟩:=uK ha
 obtain⟨b1,b2⟩:=uK hb
 obtain⟨c1,c2,c3,c4,c5,c6⟩:=zZ ha hb
 unfold qU
 refine Ev.bind (w7 b) ?_
 simp only [Qp]
 refine Ev.bind (w9 (by simp;omega)) (Ev.bind (w7 a) (Ev.bind (w9 (by simp;omega)) (Ev.bind (aE4 (by omega) (by omega)) (Ev.bind (w7 a) (Ev.bind (w7 b) (Ev.bind (w9 (by simp;omega)) (Ev.bind (aBo c6 (by omega) (by omega)) ?_)))))))
 rw [←aEi]
 exact Ev.pure _
theorem aIU {a b:Rat} (ha:qs a=true) (hb:qs b=true):Ev (fun K=>qR K (Qr a) (Qr b)) (Qr (a*b)):=by
 obtain⟨a1,a2⟩:=uK ha
 obtain⟨b1,b2⟩:=uK hb
 obtain⟨c1,c2,c3,c4,c5,c6⟩:=zZ ha hb
 unfold qR
 simp only [Qp]
 refine Ev.bind (w9 (by omega)) (Ev.bind (w7 a) (Ev.bind (w7 b) (Ev.bind (w9 (by simp;omega)) (Ev.bind (aBo c6 (by omega) (by omega)) ?_))))
 rw [←aCs]
 exact Ev.pure _
theorem aIN {a:Rat} (ha:qs a=true):Ev (fun K=>qV K (Qr a)) (Qr (-a)):=by
 obtain⟨a1,a2⟩:=uK ha
 unfold qV
 rw [Qp]
 refine Ev.bind (aCb _ (by omega)) ?_
 have:(⟨Z (-a.num),(Qr a).q⟩:bQ)=Qr (-a):=by rw [aAp (-a),Rat.neg_num,Rat.neg_den,Qq]
 rw [this]
 exact Ev.pure _
theorem aL9 {p q:Int} (hp:-9223372036854775808≤p∧p≤9223372036854775807) (hq:-9223372036854775808≤q∧q≤9223372036854775807):Ev (fun K=>aA0 K p q) (Qr ((p:Rat)/q)):=by
 have hs:∀n:Int,-9223372036854775808≤n∧n≤9223372036854775807→dl n.natAbs≤3:=fun n h=>aAh (by
  have:PB 3=1000000000000000000000000000:=by decide
  omega)
 have h1:=hs p hp
 have h2:=hs q hq
 unfold aA0
 simp only [aCh hp,aCh hq,oB]
 rw [←Rat.divInt_eq_div]
 by_cases h:q=0
 ·subst h
  rw [Rat.divInt_zero]
  exact Ev.bind (aH0 p) (Ev.pure _)
 ·exact Ev.bind (aA4 h (by omega) (by omega)) (Ev.pure _)
theorem aJ6 {p q:Int} (hp:-9223372036854775808≤p∧p≤9223372036854775807) (hq:-9223372036854775808≤q∧q≤9223372036854775807):Ev (fun K=>rT K p q) (Qr ((p:Rat)/q)):=by
 have hs:∀n:Int,-9223372036854775808≤n∧n≤9223372036854775807→dl n.natAbs≤3:=fun n h=>aAh (by
  have:PB 3=1000000000000000000000000000:=by decide
  omega)
 have h1:=hs p hp
 have h2:=hs q hq
 unfold rT
 refine Ev.bind (xS hp) (Ev.bind (xS hq) ?_)
 rw [←Rat.divInt_eq_div]
 by_cases h:q=0
 ·subst h
  rw [Rat.divInt_zero]
  exact Ev.bind (aF2 p) (Ev.pure _)
 ·exact Ev.bind (aBo h (by omega) (by omega)) (Ev.pure _)
theorem Ev.get {α:Type} {f:Nat→Option α} {r:α} (h:Ev f r):∃K,f K=some r:=let ⟨N,h⟩:=h;⟨N,h N (Nat.le_refl _)⟩
theorem y2 {α:Type} {a b:Rat} {r s:α} (h:(bif qs a&&qs b then some s else none)=some r):qs a=true∧qs b=true∧s=r:=by
 cases ha:qs a<;>cases hb:qs b<;>rw [ha,hb] at h<;>simp at h
 exact⟨rfl,rfl,h⟩
theorem aEt {α:Type} {a:Rat} {r s:α} (h:(bif qs a then some s else none)=some r):qs a=true∧s=r:=by
 cases ha:qs a<;>rw [ha] at h<;>simp at h
 exact⟨rfl,h⟩
theorem aLX {p q:Int} {r:Rat} (h:yN p q=some r):(-9223372036854775808≤p∧p≤9223372036854775807)∧(-9223372036854775808≤q∧q≤9223372036854775807)∧r=(p:Rat)/q:=by
 unfold yN at h
 obtain⟨p',h1,k1⟩:=aR h
 obtain⟨q',h2,k2⟩:=aR k1
 obtain⟨e1,e2⟩:=vT h1
 obtain⟨e3,e4⟩:=vT h2
 rw [e1,e3] at k2
 exact⟨e2,e4,(Option.some.inj k2).symm⟩
theorem aAi {a b r:Rat} (h:aC6 a b=some r):Ct Tryz.prog aH1 [.va (eQ a),.va (eQ b)] (.va (eQ r)):=by
 obtain⟨h1,h2,rfl⟩:=y2 h
 obtain⟨K,hK⟩:=(aGB h1 h2).get
 exact aCR hK
theorem vH {a b r:Rat} (h:aEj a b=some r):Ct Tryz.prog aHI [.va (eQ a),.va (eQ b)] (.va (eQ r)):=by
 obtain⟨h1,h2,rfl⟩:=y2 h
 obtain⟨K,hK⟩:=(aKd h1 h2).get
 exact aFW hK
theorem vS {a b r:Rat} (h:aCc a b=some r):Ct Tryz.prog aHJ [.va (eQ a),.va (eQ b)] (.va (eQ r)):=by
 obtain⟨h1,h2,rfl⟩:=y2 h
 obtain⟨K,hK⟩:=(aHo h1 h2).get
 exact aCE hK
theorem vG {a b r:Rat} (h:aCe a b=some r):Ct Tryz.prog aH8 [.va (eQ a),.va (eQ b)] (.va (eQ r)):=by
 obtain⟨h1,h2,rfl⟩:=y2 h
 obtain⟨K,hK⟩:=(aKb h1 h2).get
 exact aGg hK
theorem uA {a r:Rat} (h:aAo a=some r):Ct Tryz.prog aHG [.va (eQ a)] (.va (eQ r)):=by
 obtain⟨h1,rfl⟩:=aEt h
 exact aCq (aHg a)
theorem fT {a:Rat} {r:Int} (h:wD a=some r):Ct Tryz.prog aF9 [.va (eQ a)] (.vc (pI .i64 r)):=by
 obtain⟨h1,rfl⟩:=aEt h
 exact yV (aE0 a)
theorem qG {p q:Int} {r:Rat} (h:yN p q=some r):Ct Tryz.prog aJp [.vc (pI .i64 p),.vc (pI .i64 q)] (.va (eQ r)):=by
 obtain⟨h1,h2,rfl⟩:=aLX h
 obtain⟨K,hK⟩:=(aL9 h1 h2).get
 exact aHC hK
theorem sU {a b r:Rat} (h:aC6 a b=some r):Ct Tryz.prog aAY [.va (eQ a),.va (eQ b)] (.va (eQ r)):=by
 obtain⟨h1,h2,rfl⟩:=y2 h
 obtain⟨K,hK⟩:=(aJz h1 h2).get
 exact aAj hK
theorem aAH {a b r:Rat} (h:aCc a b=some r):Ct Tryz.prog aAR [.va (eQ a),.va (eQ b)] (.va (eQ r)):=by
 obtain⟨h1,h2,rfl⟩:=y2 h
 obtain⟨K,hK⟩:=(aIU h1 h2).get
 exact aAm hK
theorem p8 {a r:Rat} (h:aAo a=some r):Ct Tryz.prog aA6 [.va (eQ a)] (.va (eQ r)):=by
 obtain⟨h1,rfl⟩:=aEt h
 obtain⟨K,hK⟩:=(aIN h1).get
 exact aAx hK
theorem z5 {a b:Rat} {r:Bool} (h:aGR a b=some r):Ct Tryz.prog aAv [.va (eQ a),.va (eQ b)] (.vc (pB r)):=by
 obtain⟨h1,h2,rfl⟩:=y2 h
 obtain⟨K,hK⟩:=(aHK h1 h2).get
 exact z9 hK
theorem dP {p q:Int} {r:Rat} (h:yN p q=some r):Ct Tryz.prog aBp [.vc (pI .i64 p),.vc (pI .i64 q)] (.va (eQ r)):=by
 obtain⟨h1,h2,rfl⟩:=aLX h
 obtain⟨K,hK⟩:=(aJ6 h1 h2).get
 exact aAO hK
end Go.Proofs.YtolfcbpgmfbgmaaGreat
set_option linter.unusedVariables false
namespace Go.Proofs.YtolfcbpgmfbgmaaGreat
theorem rdG {α:Type} {xs:List α} {i:Nat} {x:α} (h:xs[i]?=some x):bP xs (i:Int)=some x:=by
 unfold bP
 rw [if_pos (by omega)]
 simpa using h
theorem rdM {α:Type} {xs:List α} {i:Nat} (h:i<xs.length):∃x,x∈xs∧xs[i]?=some x∧bP xs (i:Int)=some x:=
 ⟨xs[i],List.getElem_mem h,List.getElem?_eq_getElem h,rdG (List.getElem?_eq_getElem h)⟩
theorem stG {α:Type} {xs:List α} {i:Nat} {v:α} (h:i<xs.length):oK xs (i:Int) v=some (xs.set i v):=by
 unfold oK
 rw [if_pos (by constructor;omega;simpa using h)]
 simp
def yR (xs:List Int):Prop:=∀x∈xs,-9223372036854775808≤x∧x≤9223372036854775807
def Bd (n:Nat) (q:Rat):Prop:=q.num.natAbs<2^n∧q.den<2^n
theorem Bd.mono {m n:Nat} {q:Rat} (h:Bd m q) (hn:m≤n):Bd n q:=
 ⟨Nat.lt_of_lt_of_le h.1 (Nat.pow_le_pow_right (by decide) hn),Nat.lt_of_lt_of_le h.2 (Nat.pow_le_pow_right (by decide) hn)⟩
theorem aG9 {a n:Nat} (h:a<2^n) (hn:n≤1073741824):a.log2≤1073741824:=by
 by_cases h0:a=0
 ·subst h0;decide
 ·have:=(Nat.log2_lt h0).2 h
  omega
theorem Bd.qs {n:Nat} {q:Rat} (h:Bd n q) (hn:n≤1073741824):qs q=true:=by
 unfold Go.Proofs.YtolfcbpgmfbgmaaGreat.qs
 rw [Bool.and_eq_true,Nat.ble_eq,Nat.ble_eq]
 exact⟨aG9 h.1 hn,aG9 h.2 hn⟩
theorem aDa (n:Int) {d:Int} (hd:d≠0):(Rat.divInt n d).num.natAbs≤n.natAbs:=by
 rw [Rat.num_divInt]
 have h:(d.sign*n/((d.gcd n:Nat):Int)).natAbs≤(d.sign*n).natAbs:=Int.natAbs_ediv_le_natAbs _ _
 rw [Int.natAbs_mul,Int.natAbs_sign_of_ne_zero hd,Nat.one_mul] at h
 exact h
theorem aC9 (n:Int) {d:Int} (hd:d≠0):(Rat.divInt n d).den≤d.natAbs:=by
 rw [Rat.den_divInt,if_neg hd]
 exact Nat.div_le_self _ _
theorem Bd.divInt {k:Nat} {n d:Int} (hd:d≠0) (h1:n.natAbs<2^k) (h2:d.natAbs<2^k):Bd k (Rat.divInt n d):=
 ⟨Nat.lt_of_le_of_lt (aDa n hd) h1,Nat.lt_of_le_of_lt (aC9 n hd) h2⟩
theorem Bd.zero:Bd 1 0:=by constructor<;>decide
theorem aBb {a b m n:Nat} (h1:a<2^m) (h2:b<2^n):a*b<2^(m+n):=by
 rw [Nat.pow_add]
 exact Nat.mul_lt_mul'' h1 h2
theorem Bd.mul {m n:Nat} {a b:Rat} (ha:Bd m a) (hb:Bd n b):Bd (m+n) (a*b):=by
 rw [aCs]
 refine Bd.divInt (Int.mul_ne_zero (by have:=a.den_nz;omega) (by have:=b.den_nz;omega)) ?_ ?_
 ·rw [Int.natAbs_mul];exact aBb ha.1 hb.1
 ·rw [Int.natAbs_mul,Int.natAbs_natCast,Int.natAbs_natCast];exact aBb ha.2 hb.2
theorem Bd.add {m n:Nat} {a b:Rat} (ha:Bd m a) (hb:Bd n b):Bd (m+n+1) (a+b):=by
 rw [aEi]
 have h1:=aBb ha.1 hb.2
 have h2:=aBb hb.1 ha.2
 have h3:=aBb ha.2 hb.2
 rw [Nat.add_comm n m] at h2
 refine Bd.divInt (Int.mul_ne_zero (by have:=a.den_nz;omega) (by have:=b.den_nz;omega)) ?_ ?_
 ·have:=Int.natAbs_add_le (a.num*b.den) (b.num*a.den)
  rw [Int.natAbs_mul,Int.natAbs_mul,Int.natAbs_natCast,Int.natAbs_natCast] at this
  rw [Nat.pow_succ]
  omega
 ·rw [Int.natAbs_mul,Int.natAbs_natCast,Int.natAbs_natCast,Nat.pow_succ];omega
theorem Bd.neg {n:Nat} {a:Rat} (ha:Bd n a):Bd n (-a):=by
 unfold Bd
 rw [Rat.neg_num,Rat.neg_den,Int.natAbs_neg];exact ha
theorem Bd.sub {m n:Nat} {a b:Rat} (ha:Bd m a) (hb:Bd n b):Bd (m+n+1) (a-b):=by
 rw [Rat.sub_eq_add_neg];exact ha.add hb.neg
theorem Bd.inv {n:Nat} {b:Rat} (hb:Bd n b) (hn:1≤n):Bd n b⁻¹:=by
 by_cases h:b.num=0
 ·rw [Rat.num_eq_zero.1 h,Rat.inv_zero];exact Bd.zero.mono hn
 ·rw [aD8 h]
  exact Bd.divInt h (by simpa using hb.2) hb.1
theorem Bd.pos {n:Nat} {q:Rat} (h:Bd n q):1≤n:=by
 rcases Nat.eq_zero_or_pos n with h0|h0
 ·subst h0
  have:=h.2
  have:=q.den_nz
  omega
 ·exact h0
theorem Bd.div {m n:Nat} {a b:Rat} (ha:Bd m a) (hb:Bd n b):Bd (m+n) (a/b):=by
 rw [Rat.div_def];exact ha.mul (hb.inv hb.pos)
theorem aD5 {m n:Nat} {a b:Rat} (ha:Bd m a) (hb:Bd n b) (hm:m≤1073741824) (hn:n≤1073741824):aC6 a b=some (a+b):=by
 unfold aC6;rw [ha.qs hm,hb.qs hn];rfl
theorem aG2 {m n:Nat} {a b:Rat} (ha:Bd m a) (hb:Bd n b) (hm:m≤1073741824) (hn:n≤1073741824):aEj a b=some (a-b):=by
 unfold aEj;rw [ha.qs hm,hb.qs hn];rfl
theorem aEF {m n:Nat} {a b:Rat} (ha:Bd m a) (hb:Bd n b) (hm:m≤1073741824) (hn:n≤1073741824):aCc a b=some (a*b):=by
 unfold aCc;rw [ha.qs hm,hb.qs hn];rfl
theorem zI {m n:Nat} {a b:Rat} (ha:Bd m a) (hb:Bd n b) (hm:m≤1073741824) (hn:n≤1073741824):aCe a b=some (a/b):=by
 unfold aCe;rw [ha.qs hm,hb.qs hn];rfl
theorem aIn {m n:Nat} {a b:Rat} (ha:Bd m a) (hb:Bd n b) (hm:m≤1073741824) (hn:n≤1073741824):aGR a b=some (decide (a=b)):=by
 unfold aGR;rw [ha.qs hm,hb.qs hn];rfl
theorem aB8 {m:Nat} {a:Rat} (ha:Bd m a) (hm:m≤1073741824):aAo a=some (-a):=by
 unfold aAo;rw [ha.qs hm];rfl
theorem z4 {m:Nat} {a:Rat} (ha:Bd m a) (hm:m≤1073741824):wD a=some a.num.sign:=by
 unfold wD;rw [ha.qs hm];rfl
theorem aDO {p q:Int} (hp:-9223372036854775808≤p∧p≤9223372036854775807) (hq:-9223372036854775808≤q∧q≤9223372036854775807):yN p q=some ((p:Rat)/q):=by
 unfold yN;rw [nA hp,nA hq];rfl
theorem Bd.of {k:Nat} {p q:Int} (hq:q≠0) (h1:p.natAbs<2^k) (h2:q.natAbs<2^k):Bd k ((p:Rat)/q):=by
 rw [←Rat.divInt_eq_div];exact Bd.divInt hq h1 h2
theorem aMw {k:Nat} {p q:Int} (hq:q≠0) (h1:p.natAbs<2^k) (h2:q.natAbs<2^k) (hk:k≤62):∃r,yN p q=some r∧r=(p:Rat)/q∧Bd k r:=by
 have:2^k≤2^62:=Nat.pow_le_pow_right (by decide) hk
 refine⟨_,aDO (by omega) (by omega),rfl,Bd.of hq h1 h2⟩
end Go.Proofs.YtolfcbpgmfbgmaaGreat
set_option linter.unusedVariables false
namespace Go.Proofs.YtolfcbpgmfbgmaaGreat
open Go.ChangeShapes Go.WideShapes Go.ChangeAt Go.RowKit
inductive AV
 |vi (n:Int)
 |vs (xs:List Int)
 |vb (b:Bool)
inductive AK
 |ki
 |ks
 |kb
def AV.vp:AV→VP
 | .vi n=>.vc (pI .i64 n)
 | .vs xs=>.vc (pS cI xs)
 | .vb x=>.vc (pB x)
def AV.good:AK→AV→Prop
 | .ki,.vi n=>-9223372036854775808≤n∧n≤9223372036854775807
 | .ks,.vs xs=>yR xs∧xs.length≤yT
 | .kb,.vb _=>True
 |_,_=>False
def AK.ok (P:Program) (t:TypeId):AK→Prop
 | .ki=>P.underlying t=some (.int .i64)
 | .ks=>∃e,P.underlying t=some (.slice e)∧P.underlying e=some (.int .i64)∧P.cellsOf e=1
 | .kb=>P.underlying t=some .bool
def aGM (W:World):gD:=fun b=>W.heap[b]?
theorem aKt {H:Type} {enc:TypeId×Value→H} {P:Program} {W:World} {base:Nat} {t:TypeId} {v:Value} {d:DataW H} {p:List MemPlace} {k:AK} (hk:k.ok P t) (hval:Value.okWide P W .any base t v) (h:DataW.Trod enc P W 0 (fun _=>true) true t v d p):
  ∃av:AV,AV.good k av∧av.vp.h (aGM W) v∧∀(W':World) (sp:Nat→Bool),(∀b,b<W.heap.size→W'.heap[b]?=W.heap[b]?)→(∀q∈p,sp q.block=true)→DataW.Trod enc P W' 0 sp true t v d p:=by
 cases k with
 |ki=>
  obtain⟨n,rfl,rfl,rfl,hw⟩:=open_int hk hval h
  exact⟨.vi n,bounds_i64 hw,rfl,fun W' sp _ _=>shut_int hk hw⟩
 |kb=>
  obtain⟨x,rfl,rfl,rfl⟩:=open_bool hk hval h
  exact⟨.vb x,trivial,rfl,fun W' sp _ _=>shut_bool hk x⟩
 |ks=>
  obtain⟨e,ht,he,hc⟩:=hk
  obtain⟨a0,aBE,cap0,rfl⟩:=okWide_slice ht hval
  obtain⟨bI,hf⟩:=h
  rcases open_ints ht he hc hf with⟨h1,h2⟩|⟨a,len,cap,zs,h1,hb,hl,hm,hz,hx,hcell,hw⟩
  ·have h1':Value.slice a0 aBE cap0=.slice none 0 0:=by simpa [Value.cells] using h1
   rw [h1']
   simp only [Prod.mk.injEq] at h2
   obtain⟨rfl,rfl⟩:=h2
   exact⟨.vs [],⟨fun x hx=>by simp at hx,by simp⟩,gM cI _,fun W' sp _ _=>shut_slice_nil ht⟩
  ·have h1':Value.slice a0 aBE cap0=.slice (some a) len cap:=by simpa [Value.cells] using h1
   rw [h1']
   simp only [Prod.mk.injEq] at hx
   obtain⟨rfl,rfl⟩:=hx
   have hzl:zs.length=cap:=by simpa using hz
   have hbl:∀i,i<zs.length→a.block<W.heap.size:=fun i hi=>by
    have:=hcell i hi
    unfold World.cell? at this
    rw [block_add] at this
    cases hq:W.heap[a.block]? with
    |none=>rw [hq] at this;cases this
    |some o=>exact(Array.getElem?_eq_some_iff.1 hq).1
   refine⟨.vs (zs.take len),⟨fun x hx=>bounds_i64 (hw x (List.mem_of_mem_take hx)),?_⟩,?_,fun W' sp hW hsp=>⟨2,?_⟩⟩
   ·have hlen0:(zs.take len).length≤cap:=by simp;omega
    have:maxLen≤yT:=by decide
    omega
   ·have hlen:(zs.take len).length=len:=by simp;omega
    refine⟨some a,cap,by rw [hlen],?_,by rw [hlen];exact hl,fun j x hj=>?_⟩
    ·rw [hlen]
     have:maxLen≤yT:=by decide
     omega
    ·have hjl:j<len:=by have:=(List.getElem?_eq_some_iff.1 hj).1;omega
     have hcj:=hcell j (by omega)
     have hsp:a.spot=none:=by
      have hc0:=hcell 0 (by omega)
      unfold World.cell? at hc0
      cases hq:a.spot with
      |none=>rfl
      |some s=>
       have e0:a.add 0=a:=by simp [Addr.add]
       rw [e0,hq] at hc0
       cases hh:W.heap[a.block]? with
       |none=>rw [hh] at hc0;cases hc0
       |some o=>rw [hh] at hc0;cases o<;>simp at hc0
     obtain⟨ab,ao,ax⟩:=a
     simp only at hsp
     subst hsp
     have hxz:zs.getD j 0=x:=by
      rw [List.getElem?_take,if_pos hjl] at hj
      simp [List.getD_eq_getElem?_getD,hj]
     rw [wP,hxz] at hcj
     refine⟨ab,ao,rfl,[.int .i64 x],⟨rfl,trivial⟩,fun t u hu=>?_⟩
     cases t with
     |succ t=>simp at hu
     |zero=>
      simp only [List.getElem?_cons_zero,Option.some.injEq] at hu
      subst hu
      unfold World.cell? at hcj
      have e1:ao+j*cI.n+0=ao+j:=by show ao+j*1+0=ao+j;omega
      rw [e1]
      unfold t6 aGM
      cases hh:W.heap[ab]? with
      |none=>rw [hh] at hcj;cases hcj
      |some o=>rw [hh] at hcj;cases o<;>simp_all
   ·have hz':zs.length=(if sp a.block then cap else len):=by
     by_cases h0:cap=0
     ·have:len=0:=by omega
      rw [hzl,h0,this];simp
     ·have:sp a.block=true:=hsp (.cell a.block (a.off+0)) (by
       unfold MemPlace.row
       exact List.mem_map.2 ⟨0,List.mem_range.2 (by omega),rfl⟩)
      rw [this];simpa using hzl
    exact shut_ints 0 ht he hc (Nat.zero_le _) hl hm hz' (fun i hi=>by
     rw [←hcell i hi]
     unfold World.cell?
     rw [block_add,hW _ (hbl i hi)]) hw
def AKs (P:Program):List TypeId→List AK→Prop
 |[],[]=>True
 |t::ts,k::ks=>k.ok P t∧AKs P ts ks
 |_,_=>False
def aG5:List AK→List AV→Prop
 |[],[]=>True
 |k::ks,a::l=>AV.good k a∧aG5 ks l
 |_,_=>False
theorem aFl {H:Type} {enc:TypeId×Value→H} {P:Program} {W:World} {base:Nat}:∀{ts:List TypeId} {ks:List AK} {vs:List Value} {ds:List (DataW H)} {p:List MemPlace},AKs P ts ks→
  (∀(j:Nat) t v,ts[j]?=some t→vs[j]?=some v→Value.okWide P W .any base t v)→DataW.TrodAll enc P W 0 (fun _=>true) true ts vs ds p→
  ∃avs,aG5 ks avs∧jD (aGM W) (avs.map AV.vp) vs∧ds.length=ts.length∧∀(W':World) (sp:Nat→Bool),(∀b,b<W.heap.size→W'.heap[b]?=W.heap[b]?)→(∀q∈p,sp q.block=true)→DataW.TrodAll enc P W' 0 sp true ts vs ds p
 |[],[],vs,ds,p,_,_,h=>by
  obtain⟨rfl,rfl,rfl⟩:=trodAll_nil h
  exact⟨[],trivial,trivial,rfl,fun _ _ _ _=>trodAll_mk0⟩
 |t::ts,k::ks,vs,ds,p,hk,hv,h=>by
  obtain⟨v,vs',d,ds',q,r,rfl,rfl,rfl,h1,h2⟩:=trodAll_cons h
  obtain⟨av,a1,a2,a3⟩:=aKt hk.1 (hv 0 t v rfl rfl) h1
  obtain⟨avs,b1,b2,b3,b4⟩:=aFl hk.2 (fun j t' v' hj hj'=>hv (j+1) t' v' (by simpa using hj) (by simpa using hj')) h2
  exact⟨av::avs,⟨a1,b1⟩,⟨a2,b2⟩,by simp [b3],fun W' sp hW hsp=>trodAll_cons_mk (a3 W' sp hW fun x hx=>hsp x (by simp [hx])) (b4 W' sp hW fun x hx=>hsp x (by simp [hx]))⟩
 |[],_::_,_,_,_,hk,_,_=>hk.elim
 |_::_,[],_,_,_,hk,_,_=>hk.elim
theorem aKG {H:Type} {enc:TypeId×Value→H} {P:Program} {f:Func} {s:ChangeSpec} {apart fresh:Bool} {W W':World} {args:Array Value} {ds:List (DataW H)} {before:List MemPlace} {tb:TypeId}
  (hW:DataW.Whole enc P f.params.toList s.vars apart W args.toList ds [] before) (hv:s.vars=[]) (hr:f.resultTypes=#[tb]) (htb:P.underlying tb=some .bool)
  (hfn:s.fn H (ds++[])={results:=[.lit (.bool true)],args:=ds})
  (hargs:∀sp:Nat→Bool,(∀p∈before,sp p.block=true)→DataW.TrodAll enc P W' 0 sp true f.params.toList args.toList ds before) (hb:Below W.heap.size W W'):
  s.post enc P f apart fresh false false W args (.bool true) W':=by
 have hin:∀p∈before,(fun b=>decide (b<W.heap.size)) p.block=true:=fun p hp=>by simpa using hW.lt p hp
 refine⟨ds,[],before,[],before,[],hW,?_,?_,?_,World.keptBut_mono (fun p hp=>⟨hp,.inr (.inl hp)⟩) (hb.frame (·∈before)),fun h=>by cases h⟩
 ·rw [hfn,hr]
  exact trodAll_mk1 (shut_bool htb true)
 ·rw [hfn]
  exact hargs _ hin
 ·rw [hfn,hv]
  simp [DataW.TrodVars]
theorem aEv {H:Type} {enc:TypeId×Value→H} {P:Program} {n:Nat} {f:Func} {s:ChangeSpec} {apart fresh:Bool} {ts:List TypeId} {ks:List AK} {tb:TypeId} (hp:f.params=ts.toArray) (hk:AKs P ts ks)
  (hlaw:∀avs,aG5 ks avs→Ct P n (avs.map AV.vp) (.vc (pB true))) (hv:s.vars=[]) (hr:f.resultTypes=#[tb]) (htb:P.underlying tb=some .bool)
  (hfn:∀ds:List (DataW H),ds.length=ts.length→s.fn H (ds++[])={results:=[.lit (.bool true)],args:=ds})
  {W:World} {base:Nat} {args:Array Value} {ds gs:List (DataW H)} {before:List MemPlace} (hval:∀(j:Nat) t v,f.params[j]?=some t→args[j]?=some v→Value.okWide P W .any base t v)
  (hW:DataW.Whole enc P f.params.toList s.vars apart W args.toList ds gs before):
  Calls P n args W fun e W'=>∃v,e=.returned v∧s.post enc P f apart fresh false false W args v W':=by
 have hW':=hW
 obtain⟨p,q,hA,hV,rfl,hfz,hnd⟩:=hW
 rw [hv] at hV
 obtain⟨rfl,rfl⟩:=trodVars_none hV
 rw [hp] at hA hval
 obtain⟨avs,a1,a2,a3,a4⟩:=aFl hk (fun j t v hj hj'=>hval j t v (by simpa using hj) (by simpa using hj')) hA
 have c:=hlaw avs a1
 refine(c.run (aGM W) W args (fun b o h=>h) (by simp) (by simp) a2).mono fun e W' h=>?_
 obtain⟨v,M',Ho,qq,⟨rfl,rfl⟩,rfl,hst,hq⟩:=h
 have hv1:v=.bool true:=hq
 subst hv1
 have hkeep:∀b,b<W.heap.size→W'.heap[b]?=W.heap[b]?:=fun b hb=>hst.keep b hb (by simp)
 refine⟨_,rfl,aKG (tb:=tb) hW' hv hr htb (hfn ds a3) (fun sp hsp=>?_) ⟨hst.os,hst.tape,hst.output,hst.size,hkeep⟩⟩
 rw [hp]
 have:=a4 W' sp hkeep (fun x hx=>hsp x (by simpa using hx))
 simpa using this
theorem own:ownKnob Tryz.prog.godebug=none:=by kernel_rfl
end Go.Proofs.YtolfcbpgmfbgmaaGreat
set_option linter.unusedVariables false
namespace Go.Proofs.YtolfcbpgmfbgmaaGreat
/-- The facts, numbered. -/
def jF (P:Program) (f:FuncId) (fn:Func) (s:ChangeSpec) (c:OpenClaim):Nat→Bool
 |0=>c.wf (OpenSpec.ofChange s)
 |1=>laidOutB P
 |2=>mapsRowed P
 |3=>fn.params.all (P.readableRec ·)
 |4=>namedTie P c.named s.vars
 |5=>c.stops==[]
 |6=>P.stops==[]
 |7=>c.knobs==[]
 |8=>P.stopKnobs==[]
 |9=>c.inPlace==P.inPlace f
 |10=>c.unfollowed==P.unfollowed f
 |11=>c.recurses==P.recurses f
 |12=>c.named==P.varsNamed f
 |13=>c.maps==(fn.params.toList++s.plain.varTypes P).any (P.mapsRec ·)
 |14=>c.ifaces==(fn.params.toList++s.plain.varTypes P).any (P.ifacesRec ·)
 |15=>c.mapsOut==P.mapsAmong fn.resultTypes.toList
 |16=>c.loops==(fn.params.toList++s.plain.varTypes P).any (P.loopsFrom ·)
 |17=>c.wideKeys==(fn.params.toList++s.plain.varTypes P++fn.resultTypes.toList).any (P.wideKeysFrom ·)
 |18=>s.vars.all (P.varReadable ·)
 |19=>fn.resultTypes.all (fun t=>P.readableRec t&&decide (t<P.types.size))
 |20=>c.ifacesOut==fn.resultTypes.toList.any (P.ifacesRec ·)
 |21=>c.loopsOut==fn.resultTypes.toList.any (P.loopsFrom ·)
 |22=>c.plainKeys==P.plainKeys
 |23=>c.shortTexts.isNone
 |24=>P.stopsHeard
 |25=>P.mayEnter
 |26=>c.lifted==P.liftsFinal
 |27=>P.make==some c.make
 |28=>c.kinds==(if c.domain.isEmpty then [] else fn.params.toList.map fun t=>match P.underlying t with|some (.int k)=>some k|_=>none)
 |29=>c.pinned==c.pinnedBy
 |30=>c.veiled==(fn.params.toList++s.plain.varTypes P++fn.resultTypes.toList).any (P.veiledRec ·)
 |31=>c.veiledFits P fn.params.toList (fn.params.toList++s.plain.varTypes P++fn.resultTypes.toList)
 |_=>true
theorem aH2 {P:Program} {f:FuncId} {fn:Func} {s:ChangeSpec} {c:OpenClaim} (h:∀i,i<32→jF P f fn s c i=true):joinedFacts P f fn s c=true:=by
 unfold joinedFacts
 simp only [Bool.and_eq_true]
 exact⟨⟨⟨⟨⟨⟨⟨⟨⟨⟨⟨⟨⟨⟨⟨⟨⟨⟨⟨⟨⟨⟨⟨⟨⟨⟨⟨⟨⟨⟨⟨h 0 (by decide),h 1 (by decide)⟩,h 2 (by decide)⟩,h 3 (by decide)⟩,h 4 (by decide)⟩,h 5 (by decide)⟩,h 6 (by decide)⟩,h 7 (by decide)⟩,h 8 (by decide)⟩,h 9 (by decide)⟩,h 10 (by decide)⟩,h 11 (by decide)⟩,h 12 (by decide)⟩,h 13 (by decide)⟩,h 14 (by decide)⟩,h 15 (by decide)⟩,h 16 (by decide)⟩,h 17 (by decide)⟩,h 18 (by decide)⟩,h 19 (by decide)⟩,h 20 (by decide)⟩,h 21 (by decide)⟩,h 22 (by decide)⟩,h 23 (by decide)⟩,h 24 (by decide)⟩,h 25 (by decide)⟩,h 26 (by decide)⟩,h 27 (by decide)⟩,h 28 (by decide)⟩,h 29 (by decide)⟩,h 30 (by decide)⟩,h 31 (by decide)⟩
theorem iW {φ:Nat→Prop} {n:Nat} (h:φ n) (k:∀i,i<n→φ i):∀i,i<n+1→φ i:=fun i hi=>by
 by_cases e:i=n
 ·rw [e];exact h
 ·exact k i (by omega)
end Go.Proofs.YtolfcbpgmfbgmaaGreat
set_option linter.unusedVariables false
namespace Go.Proofs.YtolfcbpgmfbgmaaGreat
open Rat
def aHS (a b:Rat):Option Int:=bif qs a&&qs b then some (if a<b then -1 else if b<a then 1 else 0) else none
def aIe (a:Rat):Option Bool:=bif qs a then some true else none
theorem aJZ (x y:Int) (hx:x<0) (hy:y<0):wA (y.natAbs:Int) (x.natAbs:Int)=wA x y:=by
 unfold wA
 by_cases a:x<y
 ·rw [if_pos a,if_pos (by omega)]
 ·rw [if_neg a,if_neg (by omega)]
  by_cases b:y<x
  ·rw [if_pos b,if_pos (by omega)]
  ·rw [if_neg b,if_neg (by omega)]
theorem aCL {x y:Int} (hx:dl x.natAbs≤9000000000000) (hy:dl y.natAbs≤9000000000000):Ev (fun K=>kO K (Z x) (Z y)) (wA x y):=by
 have dx:=bN x.natAbs;have dy:=bN y.natAbs
 have tx:=nJ x.natAbs;have ty:=nJ y.natAbs
 unfold kO
 simp only [Z_d,tE]
 by_cases h1:x<0
 ·by_cases h2:y<0
  ·simp only [dT h1,dT h2,bne_self_eq_false,cP,cU]
   have h:=wH dy dx ty tx (by show dl _≤_;omega)
   rw [dJ,dJ,aJZ x y h1 h2] at h
   exact Ev.bind h (Ev.pure _)
  ·simp only [dT h1,dF h2,Bool.bne_false,cU]
   unfold wA
   rw [if_pos (by omega)]
   exact Ev.pure _
 ·by_cases h2:y<0
  ·simp only [dF h1,dT h2,Bool.bne_true,Bool.not_false,cU,cP]
   unfold wA
   rw [if_neg (by omega),if_pos (by omega)]
   exact Ev.pure _
  ·simp only [dF h1,dF h2,bne_self_eq_false,cP]
   have h:=wH dx dy tx ty (by show dl _≤_;omega)
   rw [dJ,dJ,show((x.natAbs:Nat):Int)=x by omega,show((y.natAbs:Nat):Int)=y by omega] at h
   exact Ev.bind h (Ev.pure _)
theorem aHL (a b:Rat):(if a<b then -1 else if b<a then 1 else 0:Int)=wA (a.num*b.den) (b.num*a.den):=by
 unfold wA
 simp only [Rat.lt_iff]
theorem aCY (u v:Int) (p q:Nat) (hp:0<p) (hq:0<q) (h:u.sign≠v.sign∨u=0∧v=0):wA u.sign v.sign=wA (u*q) (v*p):=by
 have key:∀(w:Int) (n:Nat),0<n→(w<0∧w.sign=-1∧w*n<0)∨(w=0∧w.sign=0∧w*n=0)∨(0<w∧w.sign=1∧0<w*n):=fun w n hn=>by
  rcases Int.lt_trichotomy w 0 with hw|hw|hw
  ·exact .inl ⟨hw,Int.sign_eq_neg_one_of_neg hw,Int.mul_neg_of_neg_of_pos hw (by omega)⟩
  ·exact .inr (.inl ⟨hw,by rw [hw];rfl,by rw [hw,Int.zero_mul]⟩)
  ·exact .inr (.inr ⟨hw,Int.sign_eq_one_of_pos hw,Int.mul_pos hw (by omega)⟩)
 unfold wA
 rcases key u q hq with⟨_,e1,e2⟩|⟨_,e1,e2⟩|⟨_,e1,e2⟩<;>rcases key v p hp with⟨_,f1,f2⟩|⟨_,f1,f2⟩|⟨_,f1,f2⟩<;>rw [e1,f1] at h<;>rw [e1,f1]<;>(repeat' split)<;>omega
theorem aG6 (u:Int):-9223372036854775808≤u.sign∧u.sign≤9223372036854775807∧dl u.sign.natAbs≤1:=by
 have h1:dl 1=1:=dl1
 have h0:dl 0=0:=uF
 rcases Int.lt_trichotomy u 0 with hw|hw|hw
 ·rw [Int.sign_eq_neg_one_of_neg hw];exact⟨by omega,by omega,by show dl 1≤1;omega⟩
 ·rw [hw];exact⟨by decide,by decide,by show dl 0≤1;omega⟩
 ·rw [Int.sign_eq_one_of_pos hw];exact⟨by omega,by omega,by show dl 1≤1;omega⟩
theorem aET {a b:Rat} (ha:qs a=true) (hb:qs b=true):Ev (fun K=>uG K (Qr a) (Qr b)) (if a<b then -1 else if b<a then 1 else 0):=by
 obtain⟨a1,a2⟩:=uK ha
 obtain⟨b1,b2⟩:=uK hb
 obtain⟨c1,c2,c3⟩:=zZ ha hb
 obtain⟨s1,s2,s3⟩:=aG6 a.num
 obtain⟨t1,t2,t3⟩:=aG6 b.num
 have ad:=a.den_pos
 have bd:=b.den_pos
 rw [aHL]
 unfold uG
 simp only [aE0,oB,aCh ⟨s1,s2⟩,aCh ⟨t1,t2⟩]
 by_cases h:a.num.sign=b.num.sign
 ·simp only [nF h,cP]
  by_cases h0:a.num.sign=0
  ·simp only [qT h0,cU]
   have e:=aCY a.num b.num a.den b.den ad bd (.inr ⟨Int.sign_eq_zero_iff_zero.1 h0,Int.sign_eq_zero_iff_zero.1 (h▸h0)⟩)
   rw [←e]
   exact Ev.bind (aCL (by omega) (by omega)) (Ev.pure _)
  ·simp only [qF h0,cP,aBc,oB,Qp]
   exact Ev.bind (wF (by simp;omega)) (Ev.bind (wF (by simp;omega)) (Ev.bind (aCL (by omega) (by omega)) (Ev.pure _)))
 ·simp only [nT h,cU]
  rw [←aCY a.num b.num a.den b.den ad bd (.inl h)]
  exact Ev.bind (aCL (by omega) (by omega)) (Ev.pure _)
theorem vdig {d:Int} (h:0≤d∧d<1000000000):iP d=some false:=by
 unfold iP
 rw [dF (by omega),cP,dF (by omega)]
theorem aFi {xs:List Int} (hd:jZ xs) (hl:xs.length≤9000000000000) (K:Nat):∀(m i:Nat),i+m=xs.length→∀k,m<k→eH K xs iP k i=some (.go ())
 |0,i,h,k+1,_=>by
  simp only [eH]
  rw [dF (by omega),cP]
 |m+1,i,h,k+1,hk=>by
  simp only [eH]
  rw [dT (by omega),cU,cE (by omega),oB,vdig (hd i),oB,cP,show((i:Nat):Int)+1=((i+1:Nat):Int) by omega,aIH (by omega) (by omega),oB]
  exact aFi hd hl K m (i+1) (by omega) k (by omega)
theorem aJq {n:Nat} (h:dl n≠0):(bL n).getD (dl n-1) 0≠0:=by
 rcases nJ n with h1|h1
 ·exact absurd (by unfold dl;rw [h1];rfl) h
 ·exact h1
theorem aIt {x:Int} (hx:dl x.natAbs≤9000000000000):Ev (fun K=>mN K (Z x)) true:=by
 refine⟨dl x.natAbs+1,fun K hK=>?_⟩
 have hc:iH K (bL x.natAbs) iP=some false:=by
  unfold iH m5
  have:=aFi (bN x.natAbs) (by show dl _≤_;omega) K (dl x.natAbs) 0 (by show 0+dl _=dl _;omega) K (by omega)
  rw [show((0:Nat):Int)=0 from rfl] at this
  rw [this]
  rfl
 show mN K (Z x)=some true
 unfold mN
 have hl0:(((bL x.natAbs).length:Int)==0)=decide (x=0):=aBE
 rw [Z_d,hc,oB,cP,hl0]
 by_cases h:x=0
 ·rw [dT h,cU,tE,dF (by omega)];rfl
 ·have hl:dl x.natAbs≠0:=by rw [Ne,tL];omega
  have hlen:(bL x.natAbs).length=dl x.natAbs:=rfl
  rw [dF h,cP,dT (by omega),cU,aIH (by omega) (by omega),oB,hlen,show((dl x.natAbs:Nat):Int)-1=((dl x.natAbs-1:Nat):Int) by omega,cE (by omega),oB,nT (aJq hl)]
theorem Qr_Z (a:Rat):Qr a=⟨Z a.num,Z (if a.den=1 then 0 else a.den)⟩:=by
 rw [aAp]
 by_cases h:a.den=1
 ·rw [if_pos h,if_pos h,Z0]
 ·rw [if_neg h,if_neg h]
theorem aMs {a:Rat}:(if a.den=1 then(0:Int) else a.den)≠1∧0≤(if a.den=1 then(0:Int) else a.den)∧dl (if a.den=1 then(0:Int) else a.den).natAbs≤dl a.den∧((if a.den=1 then(0:Int) else a.den)≠0→Int.gcd a.num (if a.den=1 then(0:Int) else a.den)=1):=by
 by_cases h:a.den=1
 ·rw [if_pos h];exact⟨by omega,by omega,by show dl 0≤_;rw [uF];omega,fun h=>absurd rfl h⟩
 ·rw [if_neg h];exact⟨by omega,by omega,by simp,fun _=>a.reduced⟩
theorem aHM {a:Rat} (ha:qs a=true):Ev (fun K=>wL K (Qr a)) true:=by
 obtain⟨a1,a2⟩:=uK ha
 obtain⟨q1,q2,q3,q4⟩:=@aMs a
 rw [Qr_Z]
 generalize(if a.den=1 then(0:Int) else a.den)=q at *
 unfold wL
 refine Ev.bind (aIt (by omega)) ?_
 simp only [Bool.not_true,cP]
 refine Ev.bind (aIt (by omega)) ?_
 simp only [Bool.not_true,cP,tE,dF (show¬q<0 by omega),y0,oB,dF q1,aBE]
 by_cases h:q=0
 ·simp only [dT h,cU];exact Ev.pure _
 ·simp only [dF h,cP]
  refine Ev.bind (aGI (by omega) (by omega)) ?_
  rw [q4 h]
  simp only [y0,oB]
  exact Ev.pure _
theorem y6 {a b:Rat} {r:Int} (h:aHS a b=some r):Ct Tryz.prog aC3 [.va (eQ a),.va (eQ b)] (.vc (pI .i64 r)):=by
 obtain⟨h1,h2,rfl⟩:=y2 h
 obtain⟨K,hK⟩:=(aET h1 h2).get
 exact aCK hK
theorem aEG {a:Rat} {r:Bool} (h:aIe a=some r):Ct Tryz.prog aFa [.va (eQ a)] (.vc (pB r)):=by
 obtain⟨h1,rfl⟩:=aEt h
 obtain⟨K,hK⟩:=(aHM h1).get
 exact aEe hK
end Go.Proofs.YtolfcbpgmfbgmaaGreat
set_option linter.unusedVariables false
namespace Go.Proofs.YtolfcbpgmfbgmaaGreat
/-- The parts of a loop's record that stay. -/
structure LX where
 fn:FuncId
 tmps:Array Value
 ps:Array Tmp
 asg:Code
 bd:Code
 D:Nat
def LX.at (x:LX) (st:LoopState) (pe:Option Code):Loop:={state:=st,pending:=pe,fn:=x.fn,tmps:=x.tmps,params:=x.ps,assign:=x.asg,body:=x.bd,defers:=x.D}
def rcS (x:LX) (jump:Nat→Code):Nat→Obj
 |0=>.loop (x.at .ready none)
 |j+1=>.loop (x.at .done (some (jump j)))
def rcB (x:LX):Obj:=.loop (x.at .busy none)
theorem aAZ (x:LX) (jump:Nat→Code) (j:Nat):∃r,rcS x jump j=.loop r:=by cases j<;>exact⟨_,rfl⟩
def pY (l:Nat):CP:=⟨fun _ v=>v=.func (.yield l) #[] #[],fun _ h=>h,fun h=>by subst h;rfl⟩
def gD.less (M:gD) (l:Nat):gD:=fun b=>if b=l then none else M b
def gD.more (M:gD) (l:Nat) (o:Obj):gD:=fun b=>if b=l then some o else M b
theorem u6 (M:gD) (l:Nat):M.less l l=none:=if_pos rfl
theorem zP (M:gD) (l:Nat) (o:Obj):M.more l o l=some o:=if_pos rfl
theorem xX {M:gD} {l b:Nat} (h:b≠l):M.less l b=M b:=if_neg h
theorem zY {M:gD} {l b:Nat} {o:Obj} (h:b≠l):M.more l o b=M b:=if_neg h
theorem aEL {M:gD} {l:Nat} {r:Loop} (h:M l=some (.loop r)):mlc M (M.less l):=fun b i v hv=>by
 unfold t6 at hv ⊢
 by_cases e:b=l
 ·subst e;rw [h] at hv;cases hv
 ·rw [xX e];exact hv
theorem yY {M:gD} {l:Nat} {o:Obj} (h:M l=none):mR M (M.more l o):=fun b o' hb=>by
 by_cases e:b=l
 ·subst e;rw [h] at hb;cases hb
 ·rw [zY e];exact hb
theorem jD.monoc {M M':gD} (hm:mlc M M'):∀{ps:List VP} {vs:List Value},jD M ps vs→jD M' ps vs
 |[],[],_=>trivial
 |_::_,_::_,h=>⟨VP.monoc hm h.1,jD.monoc hm h.2⟩
 |[],_::_,h=>h.elim
 |_::_,[],h=>h.elim
theorem HA.ok.notin {e:HA} {M:gD} {w:World} {l:Nat} {o:Obj} (h:e.ok M w) (hl:M l=some o):e.β≠some l:=fun e=>by
 have:=h.2 l e
 rw [hl] at this;cases this
theorem HA.ok.less {e:HA} {M:gD} {w:World} {l:Nat} {r:Loop} (h:e.ok M w) (hl:M l=some (.loop r)):e.ok (M.less l) w:=by
 obtain⟨⟨vs,how,hall⟩,hn⟩:=h
 refine⟨⟨vs,how,hall.monoc (aEL hl)⟩,fun b hb=>?_⟩
 by_cases e:b=l
 ·rw [e];exact u6 M l
 ·rw [xX e];exact hn b hb
theorem St.less {S:Sx} {M:gD} {w:World} {H:List HA} {l:Nat} {r:Loop} (h:St S M w H) (hl:M l=some (.loop r)) (h0:S.M0 l=none) (hB:l∈S.B):St S (M.less l) w H:=by
 refine⟨fun b o hb=>?_,fun b o hb=>?_,h.keep,fun b hb hnb=>?_,h.size,h.os,h.tape,h.output,fun e he=>(h.own e he).less hl,h.fresh,h.nodup⟩
 ·by_cases e:b=l
  ·subst e;rw [h0] at hb;cases hb
  ·rw [xX e];exact h.le0 b o hb
 ·by_cases e:b=l
  ·subst e;rw [u6] at hb;cases hb
  ·rw [xX e] at hb;exact h.mem b o hb
 ·rw [xX (fun e=>by subst e;exact hnb hB)];exact h.new b hb hnb
theorem St.more {S:Sx} {M:gD} {w:World} {H:List HA} {l:Nat} {o:Obj} (h:St S M w H) (hl:M l=none) (hw:w.heap[l]?=some o) (hB:l∈S.B∨S.w0.heap.size≤l) (hH:∀e∈H,e.β≠some l):St S (M.more l o) w H:=by
 refine⟨h.le0.trans (yY hl),fun b o' hb=>?_,h.keep,fun b hb hnb=>?_,h.size,h.os,h.tape,h.output,fun e he=>?_,h.fresh,h.nodup⟩
 ·by_cases e:b=l
  ·subst e;rw [zP] at hb;cases hb;exact hw
  ·rw [zY e] at hb;exact h.mem b o' hb
 ·rw [zY (fun e=>by
   rcases hB with h1|h1
   ·subst e;exact hnb h1
   ·omega)]
  exact h.new b hb hnb
 ·obtain⟨⟨vs,how,hall⟩,hn⟩:=h.own e he
  exact⟨⟨vs,how,hall.mono (yY hl)⟩,fun b hb=>by rw [zY (fun x=>by subst x;exact hH e he hb)];exact hn b hb⟩
theorem St.turn {S:Sx} {M:gD} {w:World} {H:List HA} {l:Nat} (o:Obj) (h:St S M w H) (hl:M l=none) (hB:l∈S.B∨S.w0.heap.size≤l) (hH:∀e∈H,e.β≠some l):St S M (w.putObj l o) H:=by
 refine⟨h.le0,fun b o' hb=>?_,fun b hb hnb=>?_,h.new,by simpa using h.size,h.os,h.tape,h.output,fun e he=>?_,h.fresh,h.nodup⟩
 ·rw [World.putObj_heap_other (fun e=>by subst e;rw [hl] at hb;cases hb)];exact h.mem b o' hb
 ·rw [World.putObj_heap_other (fun e=>by
   rcases hB with h1|h1
   ·subst e;exact hnb h1
   ·omega)]
  exact h.keep b hb hnb
 ·obtain⟨⟨vs,how,hall⟩,hn⟩:=h.own e he
  exact⟨⟨vs,zN how fun b hb=>World.putObj_heap_other (fun x=>by subst x;exact hH e he hb),hall⟩,hn⟩
theorem St.callB {S:Sx} {M M':gD} {w w':World} {H Hin Hr Ho:List HA} {is js:List Nat} (h:St S M w H) (hi:cR H is=some Hin) (hj:cR H js=some Hr) (hn:(is++js).Nodup)
  {P:Program} {N:NX} {B:List Nat} (k:St ⟨P,w,M,B,N⟩ M' w' Ho) (hB:∀b∈B,b∈Hin.filterMap HA.β∨((b∈S.B∨S.w0.heap.size≤b)∧∀e∈H,e.β≠some b)):St S M' w' (Ho++Hr):=by
 have hin:∀e∈Hin,e∈H:=fun e he=>by
  obtain⟨j,hje⟩:=List.getElem?_of_mem he
  obtain⟨i,_,hi'⟩:=jP hi j e hje
  exact List.mem_of_getElem? hi'
 have hrm:∀e∈Hr,e∈H:=fun e he=>by
  obtain⟨j,hje⟩:=List.getElem?_of_mem he
  obtain⟨i,_,hi'⟩:=jP hj j e hje
  exact List.mem_of_getElem? hi'
 have hB2:∀b,b∈B→S.w0.heap.size≤b∨b∈S.B:=fun b hb=>by
  rcases hB b hb with hb|hb
  ·obtain⟨e,he,heb⟩:=List.mem_filterMap.1 hb
   exact h.fresh e (hin e he) b heb
  ·exact hb.1.symm
 have hdis:∀e∈Hr,∀b,e.β=some b→b∉B:=fun e he b hb hm=>by
  rcases hB b hm with hm|hm
  ·obtain⟨x,hx,hxb⟩:=List.mem_filterMap.1 hm
   obtain⟨j1,h1⟩:=List.getElem?_of_mem he
   obtain⟨j2,h2⟩:=List.getElem?_of_mem hx
   obtain⟨i1,e1,g1⟩:=jP hj j1 e h1
   obtain⟨i2,e2,g2⟩:=jP hi j2 x h2
   have:=u8 h.nodup g1 g2 hb hxb
   subst this
   exact(List.nodup_append.1 hn).2.2 i1 (List.mem_of_getElem? e2) i1 (List.mem_of_getElem? e1) rfl
  ·exact hm.2 e (hrm e he) hb
 have hlt:∀e∈Hr,∀b,e.β=some b→b<w.heap.size:=fun e he b hb=>(h.own e (hrm e he)).lt hb
 have hr:St S M w Hr:=h.pick hj (List.nodup_append.1 hn).2.1
 refine⟨h.le0.trans k.le0,k.mem,fun b hb hnb=>?_,fun b hb hnb=>?_,Nat.le_trans h.size k.size,k.os.trans h.os,k.tape.trans h.tape,k.output.trans h.output,fun e he=>?_,fun e he b hb=>?_,?_⟩
 ·rw [k.keep b (Nat.lt_of_lt_of_le hb h.size) (fun hm=>by rcases hB2 b hm with h1|h1;omega;exact hnb h1)]
  exact h.keep b hb hnb
 ·rw [k.new b (Nat.lt_of_lt_of_le hb h.size) (fun hm=>by rcases hB2 b hm with h1|h1;omega;exact hnb h1)]
  exact h.new b hb hnb
 ·rcases List.mem_append.1 he with he|he
  ·exact k.own e he
  ·obtain⟨⟨vs,how,hall⟩,hnone⟩:=hr.own e he
   refine⟨⟨vs,zN how (fun b hb=>k.keep b (hlt e he b hb) (hdis e he b hb)),bA.mono k.le0 hall⟩,fun b hb=>?_⟩
   rw [k.new b (hlt e he b hb) (hdis e he b hb)];exact hnone b hb
 ·rcases List.mem_append.1 he with he|he
  ·rcases k.fresh e he b hb with h1|h1
   ·exact .inl (Nat.le_trans h.size h1)
   ·exact hB2 b h1
  ·exact hr.fresh e he b hb
 ·rw [List.filterMap_append]
  refine List.nodup_append.2 ⟨k.nodup,hr.nodup,fun x hx y hy hxy=>?_⟩
  subst hxy
  obtain⟨e,he,heb⟩:=List.mem_filterMap.1 hx
  obtain⟨e',he',heb'⟩:=List.mem_filterMap.1 hy
  rcases k.fresh e he x heb with h1|h1
  ·have h2:=hlt e' he' x heb'
   exact absurd h1 (by simpa using h2)
  ·exact hdis e' he' x heb' h1
def RdP (P:Program) (w:World) (M:gD) (B:List Nat) (l:Nat) (x:LX) (jump:Nat→Code) (post:Nat→List HA→Prop) (w':World) (j:Nat):Prop:=
 ∃M' Ho,post j Ho∧w'.heap[l]?=some (rcS x jump j)∧St ⟨P,w,M,l::B,0⟩ M' w' Ho∧M' l=none∧∀e∈Ho,e.β≠some l
structure CtY (P:Program) (l:Nat) (x:LX) (jump:Nat→Code) (Mb:gD) (Hin:List HA) (pre:List VP) (post:Nat→List HA→Prop):Prop where
 run:∀M w (args:Array Value),mlc Mb M→Mok M w→(∀e∈Hin,e.ok M w)→(Hin.filterMap HA.β).Nodup→jD M pre args.toList→w.heap[l]?=some (rcS x jump 0)→M l=none→(∀e∈Hin,e.β≠some l)→
  YieldAt Fence.wide 0 P l args w fun e w'=>∃j,e=.returned (.bool (Nat.beq j 0))∧RdP P w M (Hin.filterMap HA.β) l x jump post w' j
section
variable {S:Sx} {κ:Kt} {H H':List HA} {E:nZ} {ops:Array Oper} {rest:List Oper} {o:Oper}
abbrev Sx.rc (S:Sx) (l:Nat) (o:Obj):Sx:=⟨S.P,S.w0,S.M0,S.B,⟨S.N.n,S.N.fr,S.N.rd,some (l,o)⟩⟩
theorem St.reS {S:Sx} {M:gD} {w:World} {H:List HA} (h:St S M w H) (N:NX):St ⟨S.P,S.w0,S.M0,S.B,N⟩ M w H:=
 ⟨h.le0,h.mem,h.keep,h.new,h.size,h.os,h.tape,h.output,h.own,h.fresh,h.nodup⟩
theorem aL8 {l d:Nat} {x:LX} {jump:Nat→Code} {Hin Hr:List HA} {post:Nat→List HA→Prop} {a:Act} {w w':World} {M:gD} {j:Nat} (is js:List Nat) (hrc:S.N.rc=some (l,rcS x jump 0)) (hlB:l∈S.B) (h0:S.M0 l=none)
  (h1:cR H is=some Hin) (h2:cR H js=some Hr) (hn:(is++js).Nodup) (hst:St S M w H) (hsat:Sat S.N M a E) (hd:o.dst=some d) (hN:Nat.blt d S.N=true) (hr:RdP S.P w (M.less l) (Hin.filterMap HA.β) l x jump post w' j):
  ∃Ho,post j Ho∧hs (S.rc l (rcS x jump j)) (Ho++Hr) ((d,.vc (pB (Nat.beq j 0)))::E) (a.put o.dst (.bool (Nat.beq j 0))) w':=by
 obtain⟨M',Ho,hp,hl',hst',hno,hHo⟩:=hr
 have hM:M l=some (rcS x jump 0):=hsat.defers.2.2 l _ hrc
 obtain⟨r0,er0⟩:=aAZ x jump 0
 rw [er0] at hM
 have hH:∀e∈H,e.β≠some l:=fun e he=>(hst.own e he).notin hM
 have hless:=hst.less hM h0 hlB
 have hcall:=hless.callB (is:=is) (js:=js) h1 h2 hn hst' fun b hb=>by
  rcases List.mem_cons.1 hb with rfl|hb
  ·exact .inr ⟨.inl hlB,hH⟩
  ·exact .inl hb
 have hHr:∀e∈Ho++Hr,e.β≠some l:=fun e he=>by
  rcases List.mem_append.1 he with he|he
  ·exact hHo e he
  ·obtain⟨k,hk⟩:=List.getElem?_of_mem he
   obtain⟨i,_,hi⟩:=jP h2 k e hk
   exact hH e (List.mem_of_getElem? hi)
 have hfin:=hcall.more hno hl' (.inl hlB) hHr
 have hmc:mlc M (M'.more l (rcS x jump j)):=(aEL hM).trans (hst'.le0.trans (yY hno)).c
 have hne:∀b ob,M b=some ob→b≠l→M'.more l (rcS x jump j) b=some ob:=fun b ob hb e=>by
  rw [zY e];exact hst'.le0 b ob (by show M.less l b=_;rw [xX e];exact hb)
 refine⟨Ho,hp,_,hfin.reS _,?_⟩
 rw [hd]
 refine Sat.put (N:=(S.rc l (rcS x jump j)).N) ⟨hsat.size,⟨fun dd hdd=>?_,hsat.defers.2.1,fun l' o' e=>?_⟩,fun d p hl=>?_⟩ hN rfl
 ·obtain⟨D,e1,e2,e3⟩:=hsat.defers.1 dd hdd
  exact⟨D,e1,e2,hne D _ e3 fun e=>by subst e;rw [hM] at e3;cases e3⟩
 ·simp only [Option.some.injEq,Prod.mk.injEq] at e
  obtain⟨rfl,rfl⟩:=e
  exact zP _ _ _
 ·obtain⟨v,e1,e2⟩:=hsat.get d p hl
  exact⟨v,e1,VP.monoc hmc e2⟩
theorem aKx {l:Nat} {x:LX} {jump:Nat→Code} {Mb:gD} {Hin:List HA} {pre:List VP} {post:Nat→List HA→Prop} {xs:List Operand} {y:Operand} {ts:Array TypeId} {a:Act} {w:World} {M:gD} {K:Act→World→Prop} {Q:Exit→Act→World→Prop} (is:List Nat) (ho:o.op=.call {callee:=.value y,args:=xs.toArray,argTypes:=ts}) (c:CtY S.P l x jump Mb Hin pre post) (hrc:S.N.rc=some (l,rcS x jump 0)) (h0:S.M0 l=none) (hlB:l∈S.B) (hMb:mlc Mb S.M0)
  (h1:cR H is=some Hin) (hn:is.Nodup) (hst:St S M w H) (hsat:Sat S.N M a E) (hi:uL E ((y,.vc (pY l))::xs.zip pre)) (hl:xs.length=pre.length)
  (k:∀j w',RdP S.P w (M.less l) (Hin.filterMap HA.β) l x jump post w' j→K (a.put o.dst (.bool (Nat.beq j 0))) w'):o.wpIn S.F 0 S.P a w K Q:=by
 have hins:=uL.ins hsat hi
 have hall:=jD.of_ins hl hins.2
 have hy:a.eval y=.func (.yield l) #[] #[]:=hins.1
 have hM:M l=some (rcS x jump 0):=hsat.defers.2.2 l _ hrc
 obtain⟨r0,er0⟩:=aAZ x jump 0
 have hM':=hM
 rw [er0] at hM'
 have hin:=hst.pick h1 hn
 have hmc:=aEL hM'
 obtain⟨fn,tm,asg,bd,hr1,hr2⟩:=c.run (M.less l) w (xs.map a.eval).toArray ((hMb.trans hst.le0.c).trans hmc) (hst.less hM' h0 hlB).mem (fun e he=>(hin.own e he).less hM') hin.nodup (by simpa using hall.monoc hmc) (hst.mem l _ hM) (u6 M l) (fun e he=>(hin.own e he).notin hM')
 have hx:(execOp a.eval o).run S.P w=.ok (.round l fn tm asg bd) w:=by
  simp [execOp,ho,resolve,Deferred.ofValue,hy,invoke,hr1]
 refine⟨fun _ _=>trivial,?_⟩
 rw [aBe _ hx (fun d h=>by cases h)]
 refine⟨fun h=>by simp [Fence.wide] at h,RoundIn.mono (F:=Fw S.N.rd) hr2 fun e w' h=>?_⟩
 obtain⟨j,rfl,hp⟩:=h
 exact k j w' hp
theorem aMb {l d jg dj:Nat} {bg:Bool} {og:Oper} {x:LX} {jump:Nat→Code} {Mb:gD} {Hin Hr:List HA} {pre:List VP} {post:Nat→List HA→Prop} {xs:List Operand} {y:Operand} {ts:Array TypeId} (is js:List Nat) (ho:o.op=.call {callee:=.value y,args:=xs.toArray,argTypes:=ts}) (c:CtY S.P l x jump Mb Hin pre post) (h0:S.M0 l=none) (hMb:mlc Mb S.M0) (hi:uL E ((y,.vc (pY l))::xs.zip pre)) (h1:cR H is=some Hin) (h2:cR H js=some Hr)
  (k0:∀Ho,post 0 Ho→WL S ops κ rest (Ho++Hr) ((d,.vc (pB true))::E)) (k1:∀j Ho,post (j+1) Ho→WL (S.rc l (rcS x jump (j+1))) ops κ rest (Ho++Hr) ((d,.vc (pB false))::E))
  (hn:(is++js).Nodup:=by decide) (hrc:S.N.rc=some (l,rcS x jump 0):=by rfl) (hlB:l∈S.B:=by exact List.mem_cons_self) (hl:xs.length=pre.length:=by rfl) (hd:o.dst=some d:=by rfl) (hg:o.guard=some (jg,bg):=by rfl) (hj:ops[jg]?=some og:=by rfl) (hdj:og.dst=some dj:=by rfl) (hlk:f0 E dj=some (.vc (pB bg)):=by rfl) (hN:Nat.blt d S.N=true:=by rfl):WL S ops κ (o::rest) H E:=by
 rintro a w ⟨M,hst,hsat⟩
 refine wpListIn_step fun K hK=>?_
 rw [if_pos (by simp [Region.wanted,hg,aAq hsat hj hdj hlk])]
 refine aKx is ho c hrc h0 hlB hMb h1 (List.nodup_append.1 hn).1 hst hsat hi hl fun j w' hr=>?_
 obtain⟨Ho,hp,hh⟩:=aL8 is js hrc hlB h0 h1 h2 hn hst hsat hd hN hr
 cases j with
 |zero=>
  refine hK _ _ (k0 Ho hp _ _ ?_)
  have e:S.rc l (rcS x jump 0)=S:=by
   cases S with|mk P w0 M0 B N=>cases N with|mk n fr rd rc=>cases hrc;rfl
  rw [e] at hh;exact hh
 |succ j=>exact hK _ _ (k1 j Ho hp _ _ hh)
end
structure CtI (P:Program) (f l:Nat) (x:LX) (jump:Nat→Code) (Mb:gD) (Hin:List HA) (pre:List VP) (post:Nat→List HA→Prop):Prop where
 ok:aMD P f
 run:∀M w (args:Array Value),mlc Mb M→Mok M w→(∀e∈Hin,e.ok M w)→(Hin.filterMap HA.β).Nodup→jD M pre args.toList→w.heap[l]?=some (rcS x jump 0)→M l=none→(∀e∈Hin,e.β≠some l)→
  Calls P f args w fun e w'=>∃v j,e=.returned v∧RdP P w M (Hin.filterMap HA.β) l x jump post w' j
def RpI (P:Program) (w0:World) (M0:gD) (B:List Nat) (l:Nat) (x:LX) (jump:Nat→Code) (post:Nat→List HA→Prop):Ending→World→Prop:=fun e w'=>∃v j,e=.returned v∧RdP P w0 M0 B l x jump post w' j
theorem aH4 {P:Program} {f l:Nat} {x:LX} {jump:Nat→Code} {Mb:gD} {fn:Func} {c:Code} {Hin:List HA} {pre:List VP} {post:Nat→List HA→Prop} {N:Nat} (hf:P.funcs[f]?=some fn) (hb:fn.body=some c) (hname:(fn.name== "runtime.NumGoroutine")=false) (hN:fn.ntmps=N) (hpre:Nat.ble pre.length N=true)
  (h:∀w0 M0,M0 l=none→mlc Mb M0→WC ⟨P,w0,M0,l::Hin.filterMap HA.β,⟨N,fun D=>w0.heap.size≤D∧M0 D=none,none,some (l,rcS x jump 0)⟩⟩ c (.base (aCu P fn (RpI P w0 M0 (Hin.filterMap HA.β) l x jump post))) Hin (aBB 0 pre)):CtI P f l x jump Mb Hin pre post:=by
 refine⟨⟨fn,hf,hname,by simp [hb]⟩,fun M w args hMb hm hown hnd hall hl hMl hH=>(callsIn_wide (n:=0)).1 (callsIn_of_wp_marks hf hb trivial (h w M hMl hMb _ w ⟨M.more l (rcS x jump 0),?_,?_⟩))⟩
 ·refine St.more (S:=⟨P,w,M,l::Hin.filterMap HA.β,_⟩) ⟨mR.refl M,hm,fun _ _ _=>rfl,fun _ _ _=>rfl,Nat.le_refl _,rfl,rfl,rfl,hown,fun e he b hb'=>.inr (List.mem_cons_of_mem _ (List.mem_filterMap.2 ⟨e,he,hb'⟩)),hnd⟩ hMl hl (.inl List.mem_cons_self) hH
 ·have hln:=hall.len
  have hle:pre.length≤N:=by simpa using hpre
  refine⟨?_,⟨fun d hd=>(by cases hd),List.nodup_nil,fun l' o e=>?_⟩,fun d p hd=>?_⟩
  ·subst hN
   simp only [Array.length_toList] at hln
   simp;omega
  ·simp only [Option.some.injEq,Prod.mk.injEq] at e
   obtain⟨rfl,rfl⟩:=e
   exact zP _ _ _
  ·obtain⟨_,hp⟩:=aAt pre 0 d p hd
   obtain⟨v,hv,hpv⟩:=hall.at d (by simpa using hp)
   refine⟨v,?_,VP.mono (yY hMl) hpv⟩
   have hdl:d<args.size:=by
    have:=(List.getElem?_eq_some_iff.1 hv).1
    simpa using this
   rw [Array.getElem?_append_left hdl]
   simpa using hv
section
variable {H:List HA} {E:nZ}
theorem aMq {P:Program} {w0:World} {M0:gD} {B:List Nat} {N:NX} {l:Nat} {x:LX} {jump:Nat→Code} {post:Nat→List HA→Prop} {j:Nat} {M:gD} {w:World} {Ho:List HA} (h:St ⟨P,w0,M0,l::B,N⟩ M w Ho) (hM:M l=some (rcS x jump j)) (h0:M0 l=none) (hp:post j Ho):RdP P w0 M0 B l x jump post w j:=by
 obtain⟨r0,er0⟩:=aAZ x jump j
 have hM':=hM
 rw [er0] at hM'
 exact⟨M.less l,Ho,hp,h.mem l _ hM,(h.less hM' h0 List.mem_cons_self).reS 0,u6 M l,fun e he=>(h.own e he).notin hM'⟩
theorem aGW {P:Program} {fn:Func} {w0:World} {M0:gD} {B:List Nat} {l:Nat} {x:LX} {jump:Nat→Code} {post:Nat→List HA→Prop} {N:NX} {e:Exit} {Ho:List HA} (j:Nat) (he:e=.ret∨e=.normal) (hrs:fn.results=#[]) (h0:M0 l=none) (bV:∀M w,St ⟨P,w0,M0,l::B,N⟩ M w H→St ⟨P,w0,M0,l::B,N⟩ M w Ho) (hpost:post j Ho) (hrc:N.rc=some (l,rcS x jump j):=by rfl) (hfr:∀D,N.fr D→w0.heap.size≤D∧M0 D=none:=by exact fun _ h=>h):
  WX ⟨P,w0,M0,l::B,N⟩ e (.base (aCu P fn (RpI P w0 M0 B l x jump post))) H E:=by
 rintro a w ⟨M,h1,h2⟩
 have hM:M l=some (rcS x jump j):=h2.defers.2.2 l _ hrc
 have key:LeavesInM Fence.wide 0 P fn a.tmps (RpI P w0 M0 B l x jump post) a.defers .returning w:=by
  refine zG (S:=⟨P,w0,M0,l::B,N⟩) a.defers M w h1 (fun d hd=>?_) h2.defers.2.1 fun M' w' hmd h1'=>?_
  ·obtain⟨D,e1,e2,e3⟩:=h2.defers.1 d hd
   exact⟨D,e1,hfr D e2,e3⟩
  have hres:(results fn a.tmps).run P w'=.ok (.tuple #[]) w':=by
   have e:results fn a.tmps=(do let vs ←fn.results.mapM (aC0 a.tmps);pure (if h:vs.size=1 then vs[0] else .tuple vs)):=rfl
   rw [e,hrs];simp
  refine⟨_,hres,_,j,rfl,aMq (bV _ _ h1') (hmd l _ hM fun ds=>?_) h0 hpost⟩
  obtain⟨r0,er0⟩:=aAZ x jump j
  rw [er0];simp
 rcases he with rfl|rfl<;>exact key
theorem aBh {S:Sx} {R Ho:List HA} (m:Nat) (is:List Nat) (hd:H.drop m=R) (hp:cR (H.take m) is=some Ho) (hn:is.Nodup:=by decide):∀M w,St S M w H→St S M w (Ho++R):=fun M w h=>by
 rw [←List.take_append_drop m H,hd] at h
 exact h.split hp hn
def TE (n:Nat) (E:nZ) (Mb:gD) (tmps:Array Value):Prop:=tmps.size=n∧∀d p,f0 E d=some p→∃v,tmps[d]?=some v∧p.h Mb v
def RpR (P:Program) (w0:World) (M0:gD) (B:List Nat) (l:Nat) (x:LX) (jump:Nat→Code) (post:Nat→List HA→Prop):Ending→World→Prop:=fun e w'=>∃j,e=.returned (.bool (Nat.beq j 0))∧RdP P w0 M0 B l x jump post w' j
def Qas (P:Program) (l:Nat) (body:Code) (R:Ending→World→Prop):Exit→Act→World→Prop:=
 Exit.then (fun a₁ w₁=>∃w₂,(Instr.beginRound l).run P w₁=.ok () w₂∧body.wpIn (Fw (some l)) 0 P (roundPost P l R) a₁ w₂) (fun _ _ _=>False)
theorem aHF {P:Program} {l n t:Nat} {x:LX} {jump:Nat→Code} {Mb:gD} {Hin:List HA} {p:VP} {post:Nat→List HA→Prop} (ht:TE n E Mb x.tmps) (hps:x.ps=#[t]) (hN:Nat.blt t n=true)
  (h:∀w0 M0,M0 l=none→mlc Mb M0→WC ⟨P,w0,M0,l::Hin.filterMap HA.β,⟨n,fun _=>False,some l,some (l,rcS x jump 0)⟩⟩ x.asg (.base (Qas P l x.bd (RpR P w0 M0 (Hin.filterMap HA.β) l x jump post))) Hin ((t,p)::E)):CtY P l x jump Mb Hin [p] post:=by
 refine⟨fun M w args hMb hm hown hnd hall hl hMl hH=>?_⟩
 obtain⟨v,rfl⟩:∃v,args=#[v]:=by
  have hln:=hall.len
  match args,hln with
  |⟨[v]⟩,_=>exact⟨v,rfl⟩
 have hv:p.h M v:=hall.1
 have hy:=run_yield (P:=P) (args:=#[v]) (r:=x.at .ready none) hl (by show 1=x.ps.size;rw [hps];rfl)
 refine⟨_,_,_,_,hy,roundIn_of_wpIn trivial ?_⟩
 refine h w M hMl hMb _ w ⟨M.more l (rcS x jump 0),?_,?_⟩
 ·exact St.more (S:=⟨P,w,M,l::Hin.filterMap HA.β,_⟩) ⟨mR.refl M,hm,fun _ _ _=>rfl,fun _ _ _=>rfl,Nat.le_refl _,rfl,rfl,rfl,hown,fun e he b hb'=>.inr (List.mem_cons_of_mem _ (List.mem_filterMap.2 ⟨e,he,hb'⟩)),hnd⟩ hMl hl (.inl List.mem_cons_self) hH
 ·have hmc:mlc Mb (M.more l (rcS x jump 0)):=hMb.trans (yY hMl).c
  have htm:(((x.at .ready none).params.zip #[v]).foldl (fun t (p,v)=>t.setIfInBounds p v) (x.at .ready none).tmps)=x.tmps.setIfInBounds t v:=by
   show((x.ps.zip #[v]).foldl _ x.tmps)=_
   rw [hps];simp
  have h0:Sat ⟨n,fun _=>False,some l,some (l,rcS x jump 0)⟩ (M.more l (rcS x jump 0)) {tmps:=x.tmps,defers:=[]} E:=
   ⟨ht.1,⟨fun d hd=>(by cases hd),List.nodup_nil,fun l' o e=>by
    simp only [Option.some.injEq,Prod.mk.injEq] at e
    obtain⟨rfl,rfl⟩:=e
    exact zP _ _ _⟩,fun d q hd=>let ⟨u,e1,e2⟩:=ht.2 d q hd;⟨u,e1,VP.monoc hmc e2⟩⟩
  have h1:=h0.put (d:=t) (v:=v) (p:=p) hN (VP.mono (yY hMl) hv)
  show Sat _ _ {tmps:=_,defers:=[]} _
  rw [htm];exact h1
theorem aKB {P:Program} {w0:World} {M0:gD} {B:List Nat} {n l:Nat} {fr:Nat→Prop} {x:LX} {jump:Nat→Code} {R:Ending→World→Prop} {body:Code} (h0:M0 l=none)
  (h:WC ⟨P,w0,M0,l::B,⟨n,fr,some l,some (l,rcB x)⟩⟩ body (.base (roundPost P l R)) H E):WX ⟨P,w0,M0,l::B,⟨n,fr,some l,some (l,rcS x jump 0)⟩⟩ .normal (.base (Qas P l body R)) H E:=by
 rintro a w ⟨M,h1,h2⟩
 have hM:M l=some (.loop (x.at .ready none)):=h2.defers.2.2 l _ rfl
 have hH:∀e∈H,e.β≠some l:=fun e he=>(h1.own e he).notin hM
 have hlt:=(Array.getElem?_eq_some_iff.1 (h1.mem l _ hM)).1
 refine⟨w.putObj l (rcB x),run_beginRound (h1.mem l _ hM) rfl,h a _ ⟨(M.less l).more l (rcB x),?_,?_⟩⟩
 ·exact((((h1.less hM h0 List.mem_cons_self).turn (rcB x) (u6 M l) (.inl List.mem_cons_self) hH).more (u6 M l) (World.putObj_heap_same hlt) (.inl List.mem_cons_self) hH)).reS _
 ·have hmc:mlc M ((M.less l).more l (rcB x)):=(aEL hM).trans (yY (u6 M l)).c
  refine⟨h2.size,⟨fun d hd=>?_,h2.defers.2.1,fun l' o e=>?_⟩,fun d p hd=>let ⟨v,e1,e2⟩:=h2.get d p hd;⟨v,e1,VP.monoc hmc e2⟩⟩
  ·obtain⟨D,e1,e2,e3⟩:=h2.defers.1 d hd
   have hne:D≠l:=fun e=>by subst e;rw [hM] at e3;cases e3
   exact⟨D,e1,e2,by rw [zY hne,xX hne];exact e3⟩
  ·simp only [Option.some.injEq,Prod.mk.injEq] at e
   obtain⟨rfl,rfl⟩:=e
   exact zP _ _ _
theorem aID {P:Program} {w0:World} {M0:gD} {B:List Nat} {N:NX} {l:Nat} {x:LX} {jump:Nat→Code} {post:Nat→List HA→Prop} {M:gD} {w:World} {Ho:List HA} (j:Nat) (h:St ⟨P,w0,M0,l::B,N⟩ M w Ho) (hM:M l=some (rcB x)) (h0:M0 l=none) (hp:post j Ho):RdP P w0 M0 B l x jump post (w.putObj l (rcS x jump j)) j:=by
 have hH:∀e∈Ho,e.β≠some l:=fun e he=>(h.own e he).notin hM
 have hlt:=(Array.getElem?_eq_some_iff.1 (h.mem l _ hM)).1
 exact⟨M.less l,Ho,hp,World.putObj_heap_same hlt,((h.less hM h0 List.mem_cons_self).turn _ (u6 M l) (.inl List.mem_cons_self) hH).reS 0,u6 M l,hH⟩
theorem aOl {P:Program} {w0:World} {M0:gD} {B:List Nat} {N:NX} {l:Nat} {x:LX} {jump:Nat→Code} {post:Nat→List HA→Prop} {Ho:List HA} (j:Nat) (hj:jump j=.ret) (h0:M0 l=none) (bV:∀M w,St ⟨P,w0,M0,l::B,N⟩ M w H→St ⟨P,w0,M0,l::B,N⟩ M w Ho) (hpost:post (j+1) Ho) (hrc:N.rc=some (l,rcB x):=by rfl):WX ⟨P,w0,M0,l::B,N⟩ .ret (.base (roundPost P l (RpR P w0 M0 B l x jump post))) H E:=by
 rintro a w ⟨M,h1,h2⟩
 have hM:=h2.defers.2.2 l _ hrc
 have:=aID (jump:=jump) (j+1) (bV _ _ h1) hM h0 hpost
 refine⟨_,_,run_endRound (some .ret) (h1.mem l _ hM),j+1,rfl,?_⟩
 rw [←hj];exact this
theorem aOa {P:Program} {w0:World} {M0:gD} {B:List Nat} {N:NX} {l id:Nat} {x:LX} {jump:Nat→Code} {post:Nat→List HA→Prop} {Ho:List HA} (j:Nat) (hj:jump j=.exit id) (h0:M0 l=none) (bV:∀M w,St ⟨P,w0,M0,l::B,N⟩ M w H→St ⟨P,w0,M0,l::B,N⟩ M w Ho) (hpost:post (j+1) Ho) (hrc:N.rc=some (l,rcB x):=by rfl):WX ⟨P,w0,M0,l::B,N⟩ (.exit id) (.base (roundPost P l (RpR P w0 M0 B l x jump post))) H E:=by
 rintro a w ⟨M,h1,h2⟩
 have hM:=h2.defers.2.2 l _ hrc
 have:=aID (jump:=jump) (j+1) (bV _ _ h1) hM h0 hpost
 refine⟨_,_,run_endRound (some (.exit id)) (h1.mem l _ hM),j+1,rfl,?_⟩
 rw [←hj];exact this
end
section
variable {S:Sx} {κ:Kt} {H:List HA} {E:nZ}
theorem aIC {rd:Option Nat} {n:Nat} {P:Program} {f:Nat} {args:Array Value} {w:World} {R:Ending→World→Prop} (h:Calls P f args w R):CallsIn (Fw rd) n P f args w R:=(callsIn_wide (n:=n)).2 h
theorem aFM (w:World) (o:Obj) (i:Nat) (h:i<w.heap.size):(w.alloc o).heap[i]?=w.heap[i]?:=by
 show(w.heap.push o)[i]?=w.heap[i]?
 rw [Array.getElem?_push,if_neg (Nat.ne_of_lt h)]
theorem aKy {D l:Nat} {w w1 w2:World} {M M':gD} {a:Act} {Hin Hr Ho:List HA} {is js:List Nat} (hDe:D=w.heap.size) (hle:l=w.heap.size+1) (hsz:w1.heap.size=w.heap.size+2) (hst:St S M w H) (hst1:St S M w1 H) (hsat:Sat S.N M a E) (h1:cR H is=some Hin) (h2:cR H js=some Hr) (hn:(is++js).Nodup) (hMD:M D=none) (hHl:∀e∈H,∀b,e.β=some b→b<w.heap.size)
  (hst2:St ⟨S.P,w1,M,l::Hin.filterMap HA.β,0⟩ M' w2 Ho) (hno:M' l=none) (hHo:∀e∈Ho,e.β≠some l) (hD1:w1.heap[D]?=some (.deferred (some []))) (hrc:S.N.rc=none) (hfr:∀D,S.w0.heap.size≤D∧S.M0 D=none→S.N.fr D):∀o3,hs S (Ho++Hr) E {a with defers:=[{target:=.collected D,args:=#[]}]++a.defers} (w2.putObj l o3):=by
 have hmem:∀{L:List Nat} {X:List HA},cR H L=some X→∀e∈X,e∈H:=fun hp e he=>by
  obtain⟨j,hj⟩:=List.getElem?_of_mem he
  obtain⟨i,_,hi⟩:=jP hp j e hj
  exact List.mem_of_getElem? hi
 have hlH:∀e∈H,e.β≠some l:=fun e he hb=>by have:=hHl e he l hb;omega
 have hDH:∀e∈H,e.β≠some D:=fun e he hb=>by have:=hHl e he D hb;omega
 have hc:=hst1.callB (is:=is) (js:=js) h1 h2 hn hst2 fun b hb=>by
  rcases List.mem_cons.1 hb with rfl|hb
  ·exact .inr ⟨.inr (by have:=hst.size;omega),hlH⟩
  ·exact .inl hb
 have hDB:D∉l::Hin.filterMap HA.β:=fun hb=>by
  rcases List.mem_cons.1 hb with h|h
  ·omega
  ·obtain⟨e,he,heb⟩:=List.mem_filterMap.1 h
   exact hDH e (hmem h1 e he) heb
 have hDlt:D<w1.heap.size:=by omega
 have hHr:∀b,(b=l∨b=D)→∀e∈Ho++Hr,e.β≠some b:=fun b hb e he=>by
  rcases List.mem_append.1 he with he|he
  ·rcases hb with rfl|rfl
   ·exact hHo e he
   ·intro heb
    rcases hst2.fresh e he _ heb with h|h
    ·exact absurd h (Nat.not_le.2 hDlt)
    ·exact hDB h
  ·rcases hb with rfl|rfl
   ·exact hlH e (hmem h2 e he)
   ·exact hDH e (hmem h2 e he)
 have hMD':M' D=none:=(hst2.new D hDlt hDB).trans hMD
 have hD2:w2.heap[D]?=some (.deferred (some [])):=(hst2.keep D hDlt hDB).trans hD1
 have hne:D≠l:=by omega
 intro o3
 have t1:=hc.turn o3 hno (.inr (by have:=hst.size;omega)) (hHr l (.inl rfl))
 have t2:=t1.more hMD' ((World.putObj_heap_other hne).trans hD2) (.inr (by have:=hst.size;omega)) (hHr D (.inr rfl))
 have hmm:mR M (M'.more D (.deferred (some []))):=hst2.le0.trans (yY hMD')
 refine⟨_,t2,hsat.size,⟨fun d hd=>?_,?_,fun l' o' e=>by rw [hrc] at e;cases e⟩,fun d p hd=>let ⟨v,e1,e2⟩:=hsat.get d p hd;⟨v,e1,VP.mono hmm e2⟩⟩
 ·rcases List.mem_cons.1 hd with rfl|hd
  ·refine⟨D,rfl,hfr D ⟨by have:=hst.size;omega,?_⟩,zP _ _ _⟩
   cases h0:S.M0 D with
   |none=>rfl
   |some ob=>have:=hst.le0 D ob h0;rw [hMD] at this;cases this
  ·obtain⟨D',e1,e2,e3⟩:=hsat.defers.1 d hd
   exact⟨D',e1,e2,hmm _ _ e3⟩
 ·refine List.nodup_cons.2 ⟨fun hd=>?_,hsat.defers.2.1⟩
  obtain⟨D',e1,_,e3⟩:=hsat.defers.1 _ hd
  simp only [Deferred.mk.injEq,Target.collected.injEq,and_true] at e1
  rw [←e1,hMD] at e3;cases e3
theorem aNu {g gf:Nat} {ps:Array Tmp} {assign body:Code} {cs:List CP} {Hin Hr:List HA} {jump:Nat→Code} {post:Nat→List HA→Prop} (is js:List Nat) (hg:f0 E g=some (.vc (pF gf cs))) (h1:cR H is=some Hin) (h2:cR H js=some Hr)
  (hit:∀(x:LX) (l:Nat) (Mb:gD),x.ps=ps→x.asg=assign→x.bd=body→TE S.N.n E Mb x.tmps→CtI S.P gf l x jump Mb Hin (.vc (pY l)::cs.map .vc) post)
  (knext:∀Ho,post 0 Ho→WX S .normal κ (Ho++Hr) E) (kstop:∀j Ho,post (j+1) Ho→WC S (jump j) κ (Ho++Hr) E)
  (hn:(is++js).Nodup:=by decide) (hrd:S.N.rd=none:=by rfl) (hrc:S.N.rc=none:=by rfl) (hfr:∀D,S.w0.heap.size≤D∧S.M0 D=none→S.N.fr D:=by exact fun _ h=>h):WC S (.rangeFunc (.tmp g) ps assign body) κ H E:=by
 rintro a w ⟨M,hst,hsat⟩
 refine wpIn_rangeFunc fun fn _=>?_
 have hround:S.F.round=none:=hrd
 rw [hround]
 obtain⟨gv,hgv,vs,hgf,hvs⟩:=hsat.get g _ hg
 obtain⟨D,hDe⟩:∃D,D=w.heap.size:=⟨_,rfl⟩
 obtain⟨l,hle⟩:∃l,l=w.heap.size+1:=⟨_,rfl⟩
 obtain⟨x,hx1,hx2,hx3,hx4,hx5⟩:∃x:LX,x.ps=ps∧x.asg=assign∧x.bd=body∧x.tmps=a.tmps∧x.at .ready none={state:=.ready,pending:=none,fn,tmps:=a.tmps,params:=ps,assign,body,defers:=w.heap.size}:=⟨⟨fn,a.tmps,ps,assign,body,w.heap.size⟩,rfl,rfl,rfl,rfl,rfl⟩
 obtain⟨w1,hw1⟩:∃w1,w1=(w.alloc (.deferred (some []))).alloc (.loop (x.at .ready none)):=⟨_,rfl⟩
 have hMD:M D=none:=hst.mem.none (by omega)
 have hMl:M l=none:=hst.mem.none (by omega)
 have hsz:w1.heap.size=w.heap.size+2:=by rw [hw1];simp
 have hold:∀k,k<w.heap.size→w1.heap[k]?=w.heap[k]?:=fun k hk=>by
  rw [hw1]
  exact(aFM _ _ k (by simp;omega)).trans (aFM _ _ k hk)
 have hgr:w.grownBy w1 none:=⟨by rw [hw1];rfl,by rw [hw1];rfl,by rw [hw1];rfl,by omega,fun k hk _=>hold k hk⟩
 have hL1:w1.heap[l]?=some (rcS x jump 0):=by
  rw [hw1,hle]
  have:=World.alloc_heap_new (w.alloc (.deferred (some []))) (.loop (x.at .ready none))
  rwa [World.size_alloc] at this
 have hD1:w1.heap[D]?=some (.deferred (some [])):=by
  rw [hw1,hDe]
  exact(aFM _ _ _ (by simp)).trans (World.alloc_heap_new w _)
 have hown:∀e∈H,e.ok M w1:=fun e he=>(hst.own e he).kept hgr (fun b _=>by simp)
 have hst1:St S M w1 H:=⟨hst.le0,fun b o hb=>by rw [hold b (hst.mem.lt hb)];exact hst.mem b o hb,fun b hb hnb=>by rw [hold b (Nat.lt_of_lt_of_le hb hst.size)];exact hst.keep b hb hnb,hst.new,Nat.le_trans hst.size hgr.size,hgr.os.trans hst.os,hgr.tape.trans hst.tape,hgr.output.trans hst.output,hown,hst.fresh,hst.nodup⟩
 have hin:=hst1.pick h1 (List.nodup_append.1 hn).1
 have hHl:∀e∈H,∀b,e.β=some b→b<w.heap.size:=fun e he b hb=>(hst.own e he).lt hb
 have hmem:∀{L:List Nat} {X:List HA},cR H L=some X→∀e∈X,e∈H:=fun hp e he=>by
  obtain⟨j,hj⟩:=List.getElem?_of_mem he
  obtain⟨i,_,hi⟩:=jP hp j e hj
  exact List.mem_of_getElem? hi
 have hit':=hit x l M hx1 hx2 hx3 ⟨by rw [hx4];exact hsat.size,by rw [hx4];exact hsat.get⟩
 have hAl:jD M (.vc (pY l)::cs.map .vc) (#[Value.func (.yield l) #[] #[]]++vs.toArray).toList:=by
  have e:(#[Value.func (.yield l) #[] #[]]++vs.toArray).toList=.func (.yield l) #[] #[]::vs:=by simp
  rw [e]
  exact⟨rfl,jD.of_all2 hvs⟩
 have hcall:=hit'.run M w1 (#[.func (.yield l) #[] #[]]++vs.toArray) (mR.refl M).c hst1.mem hin.own hin.nodup hAl hL1 hMl (fun e he hb=>by have:=hHl e (hmem h1 e he) l hb;omega)
 have hev:a.eval (.tmp g)=.func (.func gf) #[] vs.toArray:=by
  subst hgf
  simp [Act.eval,hgv]
 have henter:(Instr.enterLoop fn a.tmps ps assign body none).run S.P w=.ok (l,[{target:=.collected D,args:=#[]}]) w1:=by
  rw [hw1,hle,hDe,hx5]
  exact run_enterLoop_outer fn a.tmps ps assign body
 refine⟨l,[{target:=.collected D,args:=#[]}],w1,{target:=.fn (.func gf) vs.toArray,args:=#[.func (.yield l) #[] #[]]},w1,gf,#[.func (.yield l) #[] #[]]++vs.toArray,w1,henter,?_,fun _ _=>trivial,?_,fun h=>by simp [Fence.wide] at h,?_⟩
 ·simp only [resolve,hev]
  simp [go_sem]
 ·simp [invoke,go_sem,lK hit'.ok]
 ·refine aIC (hcall.mono fun e w2 hr=>?_)
  obtain⟨v,j,rfl,M',Ho,hp,hl2,hst2,hno,hHo⟩:=hr
  have bV:=aKy (is:=is) (js:=js) (S:=S) (E:=E) hDe hle hsz hst hst1 hsat h1 h2 hn hMD hHl (hst2.reN S.P 0) hno hHo hD1 hrc hfr
  cases j with
  |zero=>exact⟨none,_,run_endLoop hl2 (by simp [LX.at]),knext Ho hp _ _ (bV _)⟩
  |succ j=>exact⟨some (jump j),_,run_endLoop hl2 (by simp [LX.at]),kstop j Ho hp _ _ (bV _)⟩
theorem aL4 {g gf:Nat} {ps:Array Tmp} {assign body:Code} {cs:List CP} (jump:Nat→Code) {post:Nat→List HA→Prop} (hg:f0 E g=some (.vc (pF gf cs)))
  (hit:∀(x:LX) (l:Nat) (Mb:gD),x.ps=ps→x.asg=assign→x.bd=body→TE S.N.n E Mb x.tmps→CtI S.P gf l x jump Mb H (.vc (pY l)::cs.map .vc) post)
  (knext:∀Ho,post 0 Ho→WX S .normal κ Ho E) (kstop:∀j Ho,post (j+1) Ho→WC S (jump j) κ Ho E)
  (hrd:S.N.rd=none:=by rfl) (hrc:S.N.rc=none:=by rfl) (hfr:∀D,S.w0.heap.size≤D∧S.M0 D=none→S.N.fr D:=by exact fun _ h=>h):WC S (.rangeFunc (.tmp g) ps assign body) κ H E:=
 aNu (List.range' 0 H.length) [] hg (xK H) rfl hit (fun Ho h=>by rw [List.append_nil];exact knext Ho h) (fun j Ho h=>by rw [List.append_nil];exact kstop j Ho h) (by simpa using List.nodup_range' (s:=0) (n:=H.length)) hrd hrc hfr
theorem aLZ {c:Code} {X R:List HA} (m:Nat) (is:List Nat) (hd:H.drop m=R) (hp:cR (H.take m) is=some X) (k:WC S c κ (X++R) E) (hn:is.Nodup:=by decide):WC S c κ H E:=fun a w ⟨M,h1,h2⟩=>k a w ⟨M,by
 rw [←List.take_append_drop m H,hd] at h1
 exact h1.split hp hn,h2⟩
end
section
variable {S:Sx} {κ:Kt} {H H':List HA} {E:nZ} {ops:Array Oper} {rest:List Oper} {o:Oper}
theorem aKi {l d jg dj:Nat} {bg:Bool} {og:Oper} {x:LX} {jump:Nat→Code} {Mb:gD} {pre:List VP} {post:Nat→List HA→Prop} {xs:List Operand} {y:Operand} {ts:Array TypeId} (ho:o.op=.call {callee:=.value y,args:=xs.toArray,argTypes:=ts}) (c:CtY S.P l x jump Mb H pre post) (h0:S.M0 l=none) (hMb:mlc Mb S.M0) (hi:uL E ((y,.vc (pY l))::xs.zip pre))
  (k0:∀Ho,post 0 Ho→WL S ops κ rest Ho ((d,.vc (pB true))::E)) (k1:∀j Ho,post (j+1) Ho→WL (S.rc l (rcS x jump (j+1))) ops κ rest Ho ((d,.vc (pB false))::E))
  (hrc:S.N.rc=some (l,rcS x jump 0):=by rfl) (hlB:l∈S.B:=by exact List.mem_cons_self) (hl:xs.length=pre.length:=by rfl) (hd:o.dst=some d:=by rfl) (hg:o.guard=some (jg,bg):=by rfl) (hj:ops[jg]?=some og:=by rfl) (hdj:og.dst=some dj:=by rfl) (hlk:f0 E dj=some (.vc (pB bg)):=by rfl) (hN:Nat.blt d S.N=true:=by rfl):WL S ops κ (o::rest) H E:=
 aMb (List.range' 0 H.length) [] ho c h0 hMb hi (xK H) rfl (fun Ho h=>by rw [List.append_nil];exact k0 Ho h) (fun j Ho h=>by rw [List.append_nil];exact k1 j Ho h) (by simpa using List.nodup_range' (s:=0) (n:=H.length)) hrc hlB hl hd hg hj hdj hlk hN
theorem aNv {α:Type} {C:Cd α} {T:Nat} {X X' A:List HA} {gs:List q0} {rs:List (List α)} {r:List α} {g:q0} {Post:Option Nat→Nat→List HA} {ins:List (Operand×VP)} {out:Option Nat→Nat→VP} (i:Nat) (hi:X[i]?=some (hO C g.1 g.2.2 T g.2.1 r)) (hX:yP X i=some X') (hl:eF gs rs)
  (t:Hv S o ((X'++fP C T (gs++[g]) (rs++[r]))++A) Post ins out):Hv S o ((X++fP C T gs rs)++A) Post ins out:=
 ⟨fun M w a h hin K Q hk=>t.run M w a (h.perm (by
  rw [aCa g r hl.1,yH hX,←List.append_assoc]
  have hlt:=(List.getElem?_eq_some_iff.1 hi).1
  have e:=(List.getElem?_eq_some_iff.1 hi).2
  have p1:(X.eraseIdx i++[hO C g.1 g.2.2 T g.2.1 r]).Perm X:=by
   refine List.perm_append_comm.trans ?_
   rw [←e]
   exact aAr _ _ hlt
  refine List.Perm.append_right A (List.Perm.trans ?_ (p1.append_right (fP C T gs rs)))
  rw [List.append_assoc,List.append_assoc]
  exact List.perm_append_comm.append_left _)) hin K Q hk⟩
theorem Sat.fz {N:NX} {M M0:gD} {a:Act} {E:nZ} {α:Type} {C:Cd α} {xs:List α} {β:Option Nat} {n c:Nat} (h:Sat N M a E) (hS:∀v,(pO β n c).h M0 v→(pS C xs).h M v):∀{ds:List Nat},aC4 E (.vc (pO β n c)) ds→Sat N M a (ds.map (fun d=>(d,VP.vc (pS C xs)))++E)
 |[],_=>h
 |d::ds,hd=>by
  have ih:=h.fz hS hd.2
  refine⟨ih.size,ih.defers,fun x p hl=>?_⟩
  simp only [List.map_cons,List.cons_append,f0] at hl
  by_cases e:d=x
  ·subst e
   simp only [Nat.beq_refl,cond_true,Option.some.injEq] at hl
   subst hl
   obtain⟨v,hv,hp⟩:=h.get d _ hd.1
   exact⟨v,hv,hS v hp⟩
  ·rw [wZ e] at hl
   exact ih.get x p hl
theorem aIl {α:Type} {C:Cd α} {xs:List α} {β:Option Nat} {c T n:Nat} (i k off:Nat) (ds:List Nat) {eb:HA} {ps':List CP} {H1 H2:List HA} (hi:H[i]?=some (hO C β c T n xs)) (hn:xs.length=n) (hL:xs.length≤yT)
  (hk:H[k]?=some eb) (hne:Nat.beq i k=false) (hp:eb.ps[off]?=some (pO β n c)) (hps:uB eb.ps off [pS C xs]=some ps') (h1:vK H k {eb with ps:=ps'}=some H1) (h2:yP H1 i=some H2) (hds:aC4 E (.vc (pO β n c)) ds) {a:Act} {w:World} (h:hs S H E a w):hs S H2 (ds.map (fun d=>(d,VP.vc (pS C xs)))++E) a w:=by
 obtain⟨M,hst,hsat⟩:=h
 subst hn
 have hik:i≠k:=fun e=>by subst e;simp at hne
 obtain⟨hle,hst2⟩:=hst.freeze hi (fun _ _=>.inr trivial)
 have hebm:=List.mem_of_getElem? hk
 have hbok:=hst.own _ hebm
 obtain⟨⟨us,hou,hau⟩,hnu⟩:=hbok
 obtain⟨v,hv,hpv⟩:=hau.at off hp
 obtain⟨⟨vs,how,hall⟩,_⟩:=hst.own _ (List.mem_of_getElem? hi)
 have hSa:∀v,(pO β xs.length c).h M v→(pS C xs).h (frz M w β) v:=by
  intro v hpv
  rcases hpv with hv'|⟨_,h0,_,a0,rfl⟩
  rotate_left
  ·have hx:xs=[]:=List.eq_nil_of_length_eq_zero h0
   subst hx
   exact⟨_,_,rfl,by simp,by simp,fun j x hj=>by simp at hj⟩
  subst hv'
  rcases how.2 with⟨h3,h4⟩|⟨g,cap,cur,h3,_,hg,hnc,_,hsz,htake⟩
  ·have hx:xs=[]:=List.eq_nil_of_length_eq_zero h4
   subst hx
   exact⟨_,_,rfl,by simp,by simp,fun j x hj=>by simp at hj⟩
  ·cases β with
   |none=>simp [sv] at h3
   |some b=>
    simp only [sv,Option.map_some,Value.slice.injEq,Option.some.injEq,Addr.mk.injEq,and_true,true_and] at h3
    obtain⟨rfl,rfl⟩:=h3
    refine⟨_,_,rfl,hL,hnc,fun j x hj=>⟨b,0,rfl,?_⟩⟩
    refine⟨(vs.drop (j*C.n)).take C.n,?_,fun t u ht=>?_⟩
    ·have:=((bA.mono hle hall).drop (j*C.n)).take C.n
     rwa [zO C xs j x hj] at this
    ·have hM:frz M w (some b) b=some (.cells cur T (0,0)):=by simp [frz,hg]
     rw [List.getElem?_take] at ht
     split at ht
     ·rename_i htn
      rw [List.getElem?_drop] at ht
      simp only [t6,hM,Nat.zero_add]
      rw [←htake,List.getElem?_take] at ht
      split at ht
      ·simpa using ht
      ·cases ht
     ·cases ht
 have hS:=hSa v hpv
 have hvs:us.set off v=us:=by
  apply List.ext_getElem?
  intro j
  rw [List.getElem?_set]
  split
  ·rename_i e;subst e
   split
   ·exact hv.symm
   ·rename_i hlt;simp [List.getElem?_eq_none (Nat.not_lt.1 hlt)]
  ·rfl
 have hau2:bA (frz M w β) ps' us:=by
  have:=aCZ (us:=[v]) hps (bA.mono hle hau) ⟨hS,trivial⟩
  have hoff:off<us.length:=(List.getElem?_eq_some_iff.1 hv).1
  have e:us.take off++[v]++us.drop (off+[v].length)=us.set off v:=by
   rw [List.set_eq_take_append_cons_drop,if_pos hoff];simp
  rw [e,hvs] at this
  exact this
 refine⟨_,?_,Sat.fz (hsat.mono hle) hSa hds⟩
 rw [yH h2,zL h1]
 have hget:∀(j:Nat),((H.set k {eb with ps:=ps'}).eraseIdx i)[j]?=if j<i then(H.set k {eb with ps:=ps'})[j]? else(H.set k {eb with ps:=ps'})[j+1]?:=fun j=>by rw [List.getElem?_eraseIdx]
 have hmap:∀(j:Nat) x,((H.set k {eb with ps:=ps'}).eraseIdx i)[j]?=some x→∃y,(H.eraseIdx i)[j]?=some y∧x.β=y.β∧(x.ok (frz M w β) w):=by
  intro j x hx
  have hx':∃j',j'≠i∧(H.set k {eb with ps:=ps'})[j']?=some x∧(H.eraseIdx i)[j]?=H[j']?:=by
   rw [hget] at hx
   by_cases hj:j<i
   ·rw [if_pos hj] at hx
    exact⟨j,by omega,hx,by rw [List.getElem?_eraseIdx,if_pos hj]⟩
   ·rw [if_neg hj] at hx
    exact⟨j+1,by omega,hx,by rw [List.getElem?_eraseIdx,if_neg hj]⟩
  obtain⟨j',hne',hx2,he⟩:=hx'
  rw [List.getElem?_set] at hx2
  by_cases hkj:k=j'
  ·subst hkj
   rw [if_pos rfl] at hx2
   split at hx2
   ·simp only [Option.some.injEq] at hx2
    subst hx2
    refine⟨eb,by rw [he,hk],rfl,⟨us,hou,hau2⟩,fun b hb=>?_⟩
    exact(hst2.own eb (List.mem_of_getElem? (by rw [he,hk]))).2 b hb
   ·cases hx2
  ·rw [if_neg hkj] at hx2
   exact⟨x,by rw [he,hx2],rfl,hst2.own x (List.mem_of_getElem? (by rw [he,hx2]))⟩
 refine⟨hst2.le0,hst2.mem,hst2.keep,hst2.new,hst2.size,hst2.os,hst2.tape,hst2.output,fun x hx=>?_,fun x hx b hb=>?_,uN fun {j l x y b} hj hl hx hy=>?_⟩
 ·obtain⟨j,hj⟩:=List.getElem?_of_mem hx
  obtain⟨y,_,_,hok⟩:=hmap j x hj
  exact hok
 ·obtain⟨j,hj⟩:=List.getElem?_of_mem hx
  obtain⟨y,hy,hb',_⟩:=hmap j x hj
  exact hst2.fresh y (List.mem_of_getElem? hy) b (hb'▸hb)
 ·obtain⟨x',hx',e1,_⟩:=hmap j x hj
  obtain⟨y',hy',e2,_⟩:=hmap l y hl
  exact u8 hst2.nodup hx' hy' (e1▸hx) (e2▸hy)
theorem aMp {α:Type} {C:Cd α} {xs:List α} {β:Option Nat} {c T n:Nat} (i k off:Nat) (ds:List Nat) {eb:HA} {ps':List CP} {H1 H2:List HA} (hi:H[i]?=some (hO C β c T n xs)) (hn:xs.length=n) (hk:H[k]?=some eb) (hp:eb.ps[off]?=some (pO β n c)) (hps:uB eb.ps off [pS C xs]=some ps') (h1:vK H k {eb with ps:=ps'}=some H1) (h2:yP H1 i=some H2) (hds:aC4 E (.vc (pO β n c)) ds) (kk:WL S ops κ rest H2 (ds.map (fun d=>(d,VP.vc (pS C xs)))++E)) (hne:Nat.beq i k=false:=by rfl):WL S ops κ rest H E:=
 fun a w hh=>kk a w (aIl i k off ds hi hn (hn▸aBG hi hh) hk hne hp hps h1 h2 hds hh)
theorem aLq {α:Type} {C:Cd α} {xs:List α} {β:Option Nat} {c T n:Nat} {cd:Code} (i k off:Nat) {eb:HA} {ps':List CP} {H1 H2:List HA} (hi:H[i]?=some (hO C β c T n xs)) (hn:xs.length=n) (hk:H[k]?=some eb) (hp:eb.ps[off]?=some (pO β n c)) (hps:uB eb.ps off [pS C xs]=some ps') (h1:vK H k ⟨eb.β,eb.c,eb.T,eb.sz,eb.n,ps'⟩=some H1) (h2:yP H1 i=some H2) (kk:WC S cd κ H2 E) (hne:Nat.beq i k=false:=by rfl):WC S cd κ H E:=
 fun a w hh=>kk a w (aIE i k off hi hn (hn▸aBG hi hh) hk hne hp hps h1 h2 hh)
theorem aCX {α:Type} {C:Cd α} {xs:List α} {β:Option Nat} {c T n:Nat} (i:Nat) (hi:H[i]?=some (hO C β c T n xs)) (hn:xs.length=n):∀M w,St S M w H→∃Mb,mR M Mb∧Mok Mb w∧∀v,(pO β n c).h M v→(pS C xs).h Mb v:=fun M w h=>by
 obtain⟨M',g1,g2,g3⟩:=h.frzv (i:=i) hi hn
 exact⟨M',g1,g2.mem,fun v hv=>aMh hn hv g3⟩
def pK (P0:CP) (h k0:Nat):CP:=⟨fun M v=>∃p n c,P0.h M (.slice p n c)∧h≤n∧n≤c∧v=.slice (if c=0 then p else p.map (·.add (0*k0))) (h-0) (c-0),
 fun hm ⟨p,n,c,h1,h2⟩=>⟨p,n,c,P0.monoc hm h1,h2⟩,fun h=>by obtain⟨p,n,c,_,_,_,rfl⟩:=h;rfl⟩
theorem aL3 {t e k0 bytes n c i:Nat} {β:Option Nat} {x y:Operand} {hi:Int} {k:IntKind} {ea:HA} (ho:o.op=.slice t x none (some y) none) (ht:TyS S.P t e k0 bytes) (hH:H[i]?=some ea) (hβ:ea.β=β) (hc:ea.c=c) (hn:ea.n=n) (h0:0≤hi) (hl:hi≤(n:Int)):
  Tr S o H H [(x,.vc (pO β n c)),(y,.vc (pI k hi))] (.vc (pK (pO β n c) hi.toNat k0)):=by
 refine⟨fun M w a hs hin K Q hk=>?_⟩
 have hy:a.eval y=.int k hi:=hin.2.1
 obtain⟨it,hit,hk',_⟩:=ht.s
 obtain⟨⟨vs,how,_⟩,_⟩:=hs.own ea (List.mem_of_getElem? hH)
 rw [hβ,hc,hn] at how
 have hform:∃p cc,a.eval x=.slice p n cc∧n≤cc∧(pO β n c).h M (.slice p n cc):=by
  rcases hin.1 with hx|⟨h1,h2,h3,a0,hx⟩
  ·rcases how.2 with⟨h3,h4⟩|⟨g,cap,cur,h3,_,_,hnc,_⟩
   ·refine⟨none,0,by rw [hx,h3,h4],by omega,.inl (by rw [h3,h4])⟩
   ·exact⟨some ⟨g,0,none⟩,cap,by rw [hx,h3],hnc,.inl h3.symm⟩
  ·exact⟨some a0,0,by rw [hx,h2],by omega,.inr ⟨h1,h2,h3,a0,by rw [h2]⟩⟩
 obtain⟨p,cc,hx,hnc,hp⟩:=hform
 refine bY (v:=.slice (if cc=0 then p else p.map (·.add (0*k0))) (hi.toNat-0) (cc-0)) ?_ (hk _ M w (mR.refl M) hs ⟨p,n,cc,hp,by omega,hnc,rfl⟩)
 have hb:=aAL (P:=S.P) (w:=w) (k:=k) (i:=hi) (y:=cc) (code:=.sliceAcap) h0 (by omega)
 simp [execOp,ho,hx,hy,Instr.sliceAt,Instr.slice,Instr.sliceBounds,run_underlying ht.u,sizeOf,typeInfo,hit,hb]
theorem aH5 {α:Type} {C:Cd α} {xs zs:List α} {β:Option Nat} {c T n:Nat} {hi:Int} (i:Nat) (hH:H[i]?=some (hO C β c T n xs)) (hn:xs.length=n) (h:slL xs 0 hi=some zs):∀M w,St S M w H→∃Mb,mR M Mb∧Mok Mb w∧∀v,(pK (pO β n c) hi.toNat C.n).h M v→(pS C zs).h Mb v:=fun M w hs=>by
 obtain⟨Mb,g1,g2,g3⟩:=aCX i hH hn M w hs
 refine⟨Mb,g1,g2,fun v hv=>?_⟩
 obtain⟨rfl,_,h0,hl⟩:=vR h
 obtain⟨p,n',c',h1,h2,h3,rfl⟩:=hv
 have hS:=g3 _ h1
 obtain⟨_,c2,e,q1,q2,q3⟩:=hS
 simp only [Value.slice.injEq] at e
 obtain⟨rfl,rfl,rfl⟩:=e
 exact aCv (l:=0) (h:=hi.toNat) (m:=c') ⟨p,c',rfl,q1,q2,q3⟩ (by omega) (by omega) (by omega) (Nat.le_refl _)
theorem aKp {α:Type} {xs zs:List α} {hi:Int} {n:Nat} (h:slL xs 0 hi=some zs) (hn:xs.length=n):hi≤(n:Int):=hn▸(vR h).2.2.2
def aEY (P Q:CP):List VP→List VP→Prop
 |[],[]=>True
 |p::ps,q::qs=>(p=q∨(p=.vc P∧q=.vc Q))∧aEY P Q ps qs
 |_,_=>False
theorem aEY.conv {P Q:CP} {M Mb:gD} (h1:mR M Mb) (h2:∀v,P.h M v→Q.h Mb v):∀{ps qs:List VP} {vs:List Value},aEY P Q ps qs→jD M ps vs→jD Mb qs vs
 |[],[],[],_,_=>trivial
 |[],[],_::_,_,h=>h.elim
 |p::ps,q::qs,[],_,h=>h.elim
 |p::ps,q::qs,v::vs,hl,h=>by
  refine⟨?_,aEY.conv h1 h2 hl.2 h.2⟩
  rcases hl.1 with rfl|⟨rfl,rfl⟩
  ·exact VP.mono h1 h.1
  ·exact h2 v h.1
 |[],_::_,_,h,_=>h.elim
 |_::_,[],_,h,_=>h.elim
theorem aIq {P Q:CP} {pre' pre:List VP} (hlend:∀M w,St S M w H→∃Mb,mR M Mb∧Mok Mb w∧∀v,P.h M v→Q.h Mb v) (h:aEY P Q pre' pre):∀M w,St S M w H→∃Mb,mR M Mb∧Mok Mb w∧∀vs,jD M pre' vs→jD Mb pre vs:=fun M w hs=>by
 obtain⟨Mb,h1,h2,h3⟩:=hlend M w hs
 exact⟨Mb,h1,h2,fun vs hv=>h.conv h1 h3 hv⟩
section
variable {A:List HA}
theorem aDm {f:Nat} {L A A1 B R:List HA} {pre:List VP} {q:VP} {cs:List CP} {xs:List Operand} {y:Operand} {ts:Array TypeId} (m:Nat) (is js ks:List Nat) (ho:o.op=.call {callee:=.value y,args:=xs.toArray,argTypes:=ts}) (c:yU S.P f (A1++R) (pre++cs.map .vc) (fun Ho p=>Ho=A1++R∧p=q)) (hR:L.drop m=R) (h1:cR (L.take m) is=some A1) (h2:cR (L.take m) js=some B) (h3:cR (A1++B) ks=some (L.take m)) (hn:(is++js).Nodup) (hk:ks.Nodup) (hl:xs.length=pre.length):
  Tr S o (L++A) (L++A) ((y,.vc (pF f cs))::xs.zip pre) q:=by
 refine⟨fun M w a h hin K Q hkk=>?_⟩
 have hall:=jD.of_ins hl hin.2
 obtain⟨vs,hy,hvs⟩:=hin.1
 have e0:L++A=L.take m++(R++A):=by rw [←hR,←List.append_assoc,List.take_append_drop]
 rw [e0] at h hkk
 have g1:St S M w ((A1++B)++(R++A)):=h.split (vE h1 h2) hn
 have pp:List.Perm ((A1++R)++(B++A)) ((A1++B)++(R++A)):=by
  rw [List.append_assoc,List.append_assoc,←List.append_assoc R,←List.append_assoc B]
  exact((List.perm_append_comm).append_right A).append_left A1
 have g2:=g1.perm pp
 obtain⟨p1,p2,p3⟩:=y4 (A1++R) (B++A)
 have gin:St S M w (A1++R):=g2.pick p1 (List.nodup_append.1 p3).1
 refine tF (f:=f) (args:=(xs.map a.eval++vs).toArray) ?_ (c.run M w _ g2.mem gin.own gin.nodup (jD.app hall (jD.of_all2 hvs))) fun e w' hr=>?_
 ·simp [execOp,ho,resolve,Deferred.ofValue,hy,invoke,lK c.ok]
 ·obtain⟨v,M',Ho,q',⟨rfl,rfl⟩,rfl,hst',hq⟩:=hr
  have g3:St S M' w' ((A1++R)++(B++A)):=g2.call p1 p2 p3 hst'
  exact⟨v,rfl,hkk v M' w' hst'.le0 ((g3.perm pp.symm).split h3 hk) hq⟩
def pFB (f:Nat) (bs cs:List CP):CP:=⟨fun M v=>∃us vs:List Value,v=.func (.func f) us.toArray vs.toArray∧bA M bs us∧bA M cs vs,fun hm ⟨us,vs,e,h,k⟩=>⟨us,vs,e,bA.monoc hm h,bA.monoc hm k⟩,fun h=>by obtain⟨us,vs,rfl,_⟩:=h;rfl⟩
theorem aE3 {M:gD} {a:Act}:∀{xs:List Operand} {cs:List CP},xs.length=cs.length→Ins M a (xs.zip (cs.map .vc))→bA M cs (xs.map a.eval)
 |[],[],_,_=>trivial
 |_::_,_::_,h,k=>⟨k.1,aE3 (by simpa using h) k.2⟩
 |[],_::_,h,_=>by simp at h
 |_::_,[],h,_=>by simp at h
theorem aLP {f:Nat} {xs:List Operand} {bs:List CP} (ho:o.op=.makeFunc (.func f) xs.toArray #[]) (hl:xs.length=bs.length):Tr S o H H (xs.zip (bs.map .vc)) (.vc (pFB f bs [])):=
 ⟨fun M w a hs hi K Q hk=>bY (v:=.func (.func f) (xs.map a.eval).toArray #[]) (by simp [execOp,ho,Instr.makeFunc]) (hk _ M w (mR.refl M) hs ⟨_,[],rfl,aE3 hl hi,trivial⟩)⟩
theorem aCw {f:Nat} {L A A1 B R:List HA} {pre:List VP} {q:VP} {bs cs:List CP} {xs:List Operand} {y:Operand} {ts:Array TypeId} (m:Nat) (is js ks:List Nat) (ho:o.op=.call {callee:=.value y,args:=xs.toArray,argTypes:=ts}) (c:yU S.P f (A1++R) (bs.map .vc++(pre++cs.map .vc)) (fun Ho p=>Ho=A1++R∧p=q)) (hR:L.drop m=R) (h1:cR (L.take m) is=some A1) (h2:cR (L.take m) js=some B) (h3:cR (A1++B) ks=some (L.take m)) (hn:(is++js).Nodup) (hk:ks.Nodup) (hl:xs.length=pre.length):
  Tr S o (L++A) (L++A) ((y,.vc (pFB f bs cs))::xs.zip pre) q:=by
 refine⟨fun M w a h hin K Q hkk=>?_⟩
 have hall:=jD.of_ins hl hin.2
 obtain⟨us,vs,hy,hus,hvs⟩:=hin.1
 have e0:L++A=L.take m++(R++A):=by rw [←hR,←List.append_assoc,List.take_append_drop]
 rw [e0] at h hkk
 have g1:St S M w ((A1++B)++(R++A)):=h.split (vE h1 h2) hn
 have pp:List.Perm ((A1++R)++(B++A)) ((A1++B)++(R++A)):=by
  rw [List.append_assoc,List.append_assoc,←List.append_assoc R,←List.append_assoc B]
  exact((List.perm_append_comm).append_right A).append_left A1
 have g2:=g1.perm pp
 obtain⟨p1,p2,p3⟩:=y4 (A1++R) (B++A)
 have gin:St S M w (A1++R):=g2.pick p1 (List.nodup_append.1 p3).1
 refine tF (f:=f) (args:=(us++(xs.map a.eval++vs)).toArray) ?_ (c.run M w _ g2.mem gin.own gin.nodup (jD.app (jD.of_all2 hus) (jD.app hall (jD.of_all2 hvs)))) fun e w' hr=>?_
 ·simp [execOp,ho,resolve,Deferred.ofValue,hy,invoke,lK c.ok]
 ·obtain⟨v,M',Ho,q',⟨rfl,rfl⟩,rfl,hst',hq⟩:=hr
  have g3:St S M' w' ((A1++R)++(B++A)):=g2.call p1 p2 p3 hst'
  exact⟨v,rfl,hkk v M' w' hst'.le0 ((g3.perm pp.symm).split h3 hk) hq⟩
end
end
end Go.Proofs.YtolfcbpgmfbgmaaGreat
