/- Texts of the proof, part 3: P5 P6 P7 P8 R1 RZ PR L1 FR FJ PC K16 PD. -/
import Derived.Test.YtolfcbpgmfbgmaaGreatRows
import Derived.WalkKit
import Derived.ProofKit
import Derived.OpenShut
import Derived.RangeFuncSeq
import Derived.Below
import Derived.Test.YtolfcbpgmfbgmaaGreatZ2
set_option linter.unusedSimpArgs false
set_option linter.unusedVariables false
namespace Go.Proofs.YtolfcbpgmfbgmaaGreat
/-- The guess is too great. -/
theorem aJy {P V X Y w Q g:Int} (hP:0<P) (hV1:X*P≤V) (hw2:w<(Y+1)*P) (hQ1:Q*V≤w) (hg:0≤g) (h:Y+1≤g*X) (hV:0≤V):Q<g:=by
 rcases Int.lt_or_le Q g with h1|h1
 ·exact h1
 ·exfalso
  have a:g*V≤Q*V:=Int.mul_le_mul_of_nonneg_right h1 hV
  have b:(Y+1)*P≤g*X*P:=Int.mul_le_mul_of_nonneg_right h (by omega)
  have c:g*(X*P)≤g*V:=Int.mul_le_mul_of_nonneg_left hV1 hg
  rw [Int.mul_assoc] at b
  omega
theorem aJX {P V X Y w Q g:Int} (hP:0<P) (hV2:V<(X+1)*P) (hw1:Y*P≤w) (hQ2:w<(Q+1)*V) (hg:g≤X) (h:g*X≤Y) (hQ:0≤Q) (hV:0≤V):g≤Q+1:=by
 rcases Int.lt_or_le (Q+1) g with h1|h1
 ·exfalso
  have a:(Q+1)*V≤(g-1)*V:=Int.mul_le_mul_of_nonneg_right (by omega) hV
  have b:(g-1)*V≤(g-1)*((X+1)*P):=Int.mul_le_mul_of_nonneg_left (by omega) (by omega)
  have c:g*X*P≤Y*P:=Int.mul_le_mul_of_nonneg_right h (by omega)
  have d:(g-1)*((X+1)*P)=g*X*P+(g-X-1)*P:=by grind
  have e:(g-X-1)*P≤(-1)*P:=Int.mul_le_mul_of_nonneg_right (by omega) (by omega)
  omega
 ·exact h1
theorem wV {a b c:Int} (hc:0<c) (h:a*c<b*c):a<b:=Int.lt_of_mul_lt_mul_right h (by omega)
theorem aG7 {b v u:List Int} {N j:Nat} {P V w Q v1 v2 u2 top:Int} (hb:b.length=N+2) (hb2:b.length≤9000000000000) (hvl:v.length=N+2) (huj:j+N<u.length) (hj:j≤9000000000000) (e1:v.getD (N+1) 0=v1) (e2:v.getD N 0=v2) (e3:u.getD (j+N) 0=u2)
  (hP:0<P) (hV:0≤V) (hv1:500000000≤v1) (hv1':v1<1000000000) (hv2:0≤v2) (hv2':v2<1000000000) (hu2:0≤u2) (hu2':u2<1000000000)
  (hV1:(v1*1000000000+v2)*P≤V) (hV2:V<(v1*1000000000+v2+1)*P) (hw1:(top*1000000000+u2)*P≤w) (hw2:w<(top*1000000000+u2+1)*P) (hwV:w<V*1000000000) (hQ:0≤Q) (hQ1:Q*V≤w) (hQ2:w<(Q+1)*V):
  ∀(n:Nat) (g r:Int),0≤r→r<1000000000→1000000000≤r+n*500000000→g*v1+r=top→Q≤g→g≤1000000001→
  ∃g',(Q≤g'∧g'≤Q+1∧g'<1000000000)∧∀K k,n<k→eG K b v u (j:Int) k g r=some g'
 |0,g,r,h0,h1,h2,_,_,_=>by omega
 |n+1,g,r,h0,h1,h2,h3,h4,h5=>by
  have QB:Q<1000000000:=by
   have hVpos:0<V:=by
    rcases Int.lt_or_le 0 V with h|h
    ·exact h
    ·have:V=0:=by omega
     subst this
     omega
   exact wV hVpos (by rw [Int.mul_comm 1000000000 V];omega)
  have htop:top≤v1*1000000000+v2:=by
   have t1:(top*1000000000)*P≤(top*1000000000+u2)*P:=Int.mul_le_mul_of_nonneg_right (by omega) (by omega)
   have t2:(top*1000000000)*P<((v1*1000000000+v2+1)*1000000000)*P:=by
    have:(v1*1000000000+v2+1)*1000000000*P=(v1*1000000000+v2+1)*P*1000000000:=by grind
    rw [this]
    omega
   have t3:=wV hP t2
   omega
  have c0:aS ((b.length:Int)-1)=some ((N+1:Nat):Int):=ckN (m:=0) (by omega) (by omega)
  have c1:=bZ (xs:=v) (i:=N+1) (by omega)
  rw [e1] at c1
  have c2:aS ((b.length:Int)-2)=some ((N:Nat):Int):=ckN (m:=0) (by omega) (by omega)
  have c3:=bZ (xs:=v) (i:=N) (by omega)
  rw [e2] at c3
  have c4:aS ((j:Int)+(b.length:Int))=some ((j+N+2:Nat):Int):=ckN (m:=0) (by omega) (by omega)
  have c5:aS (((j+N+2:Nat):Int)-2)=some ((j+N:Nat):Int):=ckN (m:=0) (by omega) (by omega)
  have c6:=bZ (xs:=u) (i:=j+N) huj
  rw [e3] at c6
  have c7:aS (r+v1)=some (r+v1):=vX (by omega)
  have c8:aS (g-1)=some (g-1):=vX (by omega)
  have less:Q<g→∃g',(Q≤g'∧g'≤Q+1∧g'<1000000000)∧∀K k,n<k→(bif decide (1000000000≤r+v1) then some (g-1) else eG K b v u (j:Int) k (g-1) (r+v1))=some g':=by
   intro hlt
   have h3':(g-1)*v1+(r+v1)=top:=by rw [Int.sub_mul];omega
   by_cases hr:1000000000≤r+v1
   ·have hg1:(g-1)*v1<1000000000*v1:=by omega
    have hg2:g-1<1000000000:=wV (by omega) hg1
    have hg3:(g-1)*(v1*1000000000+v2)≤top*1000000000+u2:=by
     have m1:(g-1)*v2≤999999999*999999999:=Int.mul_le_mul (by omega) (by omega) hv2 (by omega)
     have m2:(g-1)*(v1*1000000000+v2)=((g-1)*v1)*1000000000+(g-1)*v2:=by grind
     rw [m2]
     omega
    refine⟨g-1,⟨by omega,aJX hP hV2 hw1 hQ2 (by omega) hg3 hQ hV,hg2⟩,fun K k hk=>?_⟩
    rw [dT hr,bS]
   ·obtain⟨g',i1,i2⟩:=aG7 hb hb2 hvl huj hj e1 e2 e3 hP hV hv1 hv1' hv2 hv2' hu2 hu2' hV1 hV2 hw1 hw2 hwV hQ hQ1 hQ2 n (g-1) (r+v1) (by omega) (by omega) (by omega) h3' (by omega) (by omega)
    refine⟨g',i1,fun K k hk=>?_⟩
    rw [dF hr,bM]
    exact i2 K k hk
  by_cases hg:1000000000≤g
  ·obtain⟨g',i1,i2⟩:=less (by omega)
   refine⟨g',i1,fun K k hk=>?_⟩
   obtain⟨k',rfl,_⟩:=aY hk
   simp only [eG,dT hg,bS,oB,c0,c1,c7,c8]
   exact i2 K k' (by omega)
  ·have m:=aGe (x:=g) (y:=v2) (by omega) (by omega) hv2 hv2'
   have c9:aS (g*v2)=some (g*v2):=vX (by omega)
   have c10:aS (r*1000000000)=some (r*1000000000):=vX (by omega)
   have c11:aS (r*1000000000+u2)=some (r*1000000000+u2):=vX (by omega)
   have m2:g*(v1*1000000000+v2)=(g*v1)*1000000000+g*v2:=by grind
   by_cases hc:r*1000000000+u2<g*v2
   ·obtain⟨g',i1,i2⟩:=less (aJy hP hV1 hw2 hQ1 (by omega) (by rw [m2];omega) hV)
    refine⟨g',i1,fun K k hk=>?_⟩
    obtain⟨k',rfl,_⟩:=aY hk
    simp only [eG,dF hg,bM,bS,oB,c0,c1,c2,c3,c4,c5,c6,c7,c8,c9,c10,c11,dT hc]
    exact i2 K k' (by omega)
   ·refine⟨g,⟨h4,aJX hP hV2 hw1 hQ2 (by omega) (by rw [m2];omega) hQ hV,by omega⟩,fun K k hk=>?_⟩
    obtain⟨k',rfl,_⟩:=aY hk
    simp only [eG,dF hg,bM,oB,c2,c3,c4,c5,c6,c9,c10,c11,dF hc]
structure aOk (u0 v:List Int) (j:Nat) (g:Int) (u:List Int) (c:Int) (i:Nat):Prop where
 len:u.length=u0.length
 ok:lV u
 c0:0≤c
 c1:c<1000000000
 same:∀s,s<j∨j+i≤s→u.getD s 0=u0.getD s 0
 val:W u j i-c*PB i=W u0 j i-g*W v 0 i
theorem aOk.step {u0 v u:List Int} {j i:Nat} {g c x c':Int} (h:aOk u0 v j g u c i) (hl:j+i<u0.length) (hx0:0≤x) (hx1:x<1000000000) (h0:0≤c') (h1:c'<1000000000) (hv:x=u.getD (j+i) 0-g*v.getD i 0-c+c'*1000000000):aOk u0 v j g (u.set (j+i) x) c' (i+1) where
 len:=by simpa using h.len
 ok:=h.ok.set hx0 hx1
 c0:=h0
 c1:=h1
 same:=fun s hs=>by rw [fP (by omega)];exact h.same s (by omega)
 val:=by
  have hlen:=h.len
  have hs:=h.same (j+i) (.inr (Nat.le_refl _))
  have hval:=h.val
  rw [dU,dU,dU,eA (by omega),aAg (.inr (by omega)),Nat.zero_add]
  simp only [PB]
  rw [hs] at hv
  grind
theorem aEO {b v u0:List Int} {j:Nat} {g:Int} (hg0:0≤g) (hg1:g<1000000000) (hv:lV v) (hvl:b.length≤v.length) (hl:j+b.length≤u0.length) (hL:u0.length≤9000000000000):∀(t i:Nat) (u:List Int) (c:Int),i+t=b.length→aOk u0 v j g u c i→
  ∃u' c',aOk u0 v j g u' c' b.length∧∀K k,t<k→fS K b v (j:Int) g k u c (i:Int)=some (u',c')
 |0,i,u,c,hi,hP=>by
  have:i=b.length:=by omega
  subst this
  refine⟨u,c,hP,fun K k hk=>?_⟩
  obtain⟨k',rfl,_⟩:=aY hk
  simp [fS]
 |t+1,i,u,c,hi,hP=>by
  have hlen:=hP.len
  have c0:=hP.c0
  have c1:=hP.c1
  have hu:=hP.ok (j+i)
  have hvi:=hv i
  have m:=aGe hg0 hg1 hvi.1 hvi.2
  have e1:decide ((i:Int)<(b.length:Int))=true:=dT (by omega)
  have e2:aS ((i:Int)+(j:Int))=some ((j+i:Nat):Int):=ckN (m:=0) (by omega) (by omega)
  have e3:=bZ (xs:=u) (i:=j+i) (by omega)
  have e4:=bZ (xs:=v) (i:=i) (by omega)
  have e5:aS (g*v.getD i 0)=some (g*v.getD i 0):=vX (by omega)
  have e6:aS (u.getD (j+i) 0-g*v.getD i 0)=some (u.getD (j+i) 0-g*v.getD i 0):=vX (by omega)
  have e8:aS ((i:Int)+1)=some ((i+1:Nat):Int):=ckN (m:=0) (by omega) (by omega)
  have e9:∀x,qL u ((j+i:Nat):Int) x=some (u.set (j+i) x):=fun x=>vQ (by omega)
  obtain⟨z,hz⟩:∃z,u.getD (j+i) 0-g*v.getD i 0-c=z:=⟨_,rfl⟩
  have e7:aS (u.getD (j+i) 0-g*v.getD i 0-c)=some z:=by rw [hz];exact vX (by omega)
  by_cases hneg:z<0
  ·have f1:aS (-z)=some (-z):=vX (by omega)
   have f2:aS (-z+1000000000)=some (-z+1000000000):=vX (by omega)
   have f3:aS (-z+1000000000-1)=some (-z+1000000000-1):=vX (by omega)
   have f4:chq (-z+1000000000-1) 1000000000=some ((-z+1000000000-1)/1000000000):=xV (by omega) (by omega) (by omega)
   have f5:aS ((-z+1000000000-1)/1000000000*1000000000)=some ((-z+1000000000-1)/1000000000*1000000000):=vX (by omega)
   have f6:aS (z+(-z+1000000000-1)/1000000000*1000000000)=some (z+(-z+1000000000-1)/1000000000*1000000000):=vX (by omega)
   obtain⟨u',c',h1,h2⟩:=aEO hg0 hg1 hv hvl hl hL t (i+1) _ _ (by omega) (hP.step (x:=z+(-z+1000000000-1)/1000000000*1000000000) (c':=(-z+1000000000-1)/1000000000) (by omega) (by omega) (by omega) (by omega) (by omega) (by omega))
   refine⟨u',c',h1,fun K k hk=>?_⟩
   obtain⟨k',rfl,_⟩:=aY hk
   simp only [fS,e1,e2,e3,e4,e5,e6,e7,e8,e9,f1,f2,f3,f4,f5,f6,dT hneg,bS,oB]
   exact h2 K k' (by omega)
  ·obtain⟨u',c',h1,h2⟩:=aEO hg0 hg1 hv hvl hl hL t (i+1) _ _ (by omega) (hP.step (x:=z) (c':=0) (by omega) (by omega) (by omega) (by omega) (by omega) (by omega))
   refine⟨u',c',h1,fun K k hk=>?_⟩
   obtain⟨k',rfl,_⟩:=aY hk
   simp only [fS,e1,e2,e3,e4,e5,e6,e7,e8,e9,dF hneg,bS,bM,oB]
   exact h2 K k' (by omega)
structure aJt (u0 v:List Int) (j:Nat) (u:List Int) (c:Int) (i:Nat):Prop where
 len:u.length=u0.length
 ok:∀s,s<j+v.length→0≤u.getD s 0∧u.getD s 0<1000000000
 c0:0≤c
 c1:c≤1
 same:∀s,s<j∨j+i≤s→u.getD s 0=u0.getD s 0
 val:W u j i+c*PB i=W u0 j i+W v 0 i
theorem aJt.step {u0 v u:List Int} {j i:Nat} {c x c':Int} (h:aJt u0 v j u c i) (hl:j+i<u0.length) (hx0:0≤x) (hx1:x<1000000000) (h0:0≤c') (h1:c'≤1) (hv:x+c'*1000000000=u.getD (j+i) 0+v.getD i 0+c):aJt u0 v j (u.set (j+i) x) c' (i+1) where
 len:=by simpa using h.len
 ok:=fun s hs=>by
  rw [aBm];split
  ·exact⟨hx0,hx1⟩
  ·exact h.ok s hs
 c0:=h0
 c1:=h1
 same:=fun s hs=>by rw [fP (by omega)];exact h.same s (by omega)
 val:=by
  have hlen:=h.len
  have hs:=h.same (j+i) (.inr (Nat.le_refl _))
  have hval:=h.val
  rw [dU,dU,dU,eA (by omega),aAg (.inr (by omega)),Nat.zero_add]
  simp only [PB]
  rw [hs] at hv
  grind
theorem aHF {b v u0:List Int} {j:Nat} (hv:lV v) (hvl:b.length=v.length) (hl:j+b.length≤u0.length) (hL:u0.length≤9000000000000):∀(t i:Nat) (u:List Int) (c:Int),i+t=b.length→aJt u0 v j u c i→
  ∃u' c',aJt u0 v j u' c' b.length∧∀K k,t<k→jL K b v (j:Int) k u c (i:Int)=some (u',c')
 |0,i,u,c,hi,hP=>by
  have:i=b.length:=by omega
  subst this
  refine⟨u,c,hP,fun K k hk=>?_⟩
  obtain⟨k',rfl,_⟩:=aY hk
  simp [jL]
 |t+1,i,u,c,hi,hP=>by
  have hlen:=hP.len
  have c0:=hP.c0
  have c1:=hP.c1
  have hu:=hP.ok (j+i) (by omega)
  have hvi:=hv i
  have e1:decide ((i:Int)<(b.length:Int))=true:=dT (by omega)
  have e2:aS ((i:Int)+(j:Int))=some ((j+i:Nat):Int):=ckN (m:=0) (by omega) (by omega)
  have e3:=bZ (xs:=u) (i:=j+i) (by omega)
  have e4:=bZ (xs:=v) (i:=i) (by omega)
  have e5:aS (u.getD (j+i) 0+v.getD i 0)=some (u.getD (j+i) 0+v.getD i 0):=vX (by omega)
  have e6:aS (u.getD (j+i) 0+v.getD i 0+c)=some (u.getD (j+i) 0+v.getD i 0+c):=vX (by omega)
  have e7:chr (u.getD (j+i) 0+v.getD i 0+c) 1000000000=some ((u.getD (j+i) 0+v.getD i 0+c)%1000000000):=u5 (by omega) (by omega)
  have e9:chq (u.getD (j+i) 0+v.getD i 0+c) 1000000000=some ((u.getD (j+i) 0+v.getD i 0+c)/1000000000):=xV (by omega) (by omega) (by omega)
  have e8:aS ((i:Int)+1)=some ((i+1:Nat):Int):=ckN (m:=0) (by omega) (by omega)
  have e10:∀x,qL u ((j+i:Nat):Int) x=some (u.set (j+i) x):=fun x=>vQ (by omega)
  obtain⟨u',c',h1,h2⟩:=aHF hv hvl hl hL t (i+1) _ _ (by omega) (hP.step (x:=(u.getD (j+i) 0+v.getD i 0+c)%1000000000) (c':=(u.getD (j+i) 0+v.getD i 0+c)/1000000000) (by omega) (by omega) (by omega) (by omega) (by omega) (by omega))
  refine⟨u',c',h1,fun K k hk=>?_⟩
  obtain⟨k',rfl,_⟩:=aY hk
  simp only [jL,e1,e2,e3,e4,e5,e6,e7,e8,e9,e10,bS,oB]
  exact h2 K k' (by omega)
structure aG1 (m n:Nat) (v:List Int) (S:Int) (q u:List Int) (J:Nat):Prop where
 ql:q.length=m-n+1
 ul:u.length=m+1
 uok:lV u
 qok:∀s,J≤s→0≤q.getD s 0∧q.getD s 0<1000000000
 lt:vD u<vD v*PB J
 val:S=vD v*(PB J*W q J (m-n+1-J))+vD u
theorem aKH {u:List Int} {k c:Nat} (hu:lV u) (h:W u 0 (k+c)<PB k):W u 0 (k+c)=W u 0 k:=by
 rw [y6] at h ⊢
 have h1:=(aBS (hu.dr 0 k)).1
 have h2:=(aBS (hu.dr (0+k) c)).1
 have hp:=uD k
 rcases Int.lt_or_le 0 (W u (0+k) c) with h3|h3
 ·have:PB k*1≤PB k*W u (0+k) c:=Int.mul_le_mul_of_nonneg_left h3 (by omega)
  omega
 ·have:W u (0+k) c=0:=by omega
  rw [this];simp
theorem aG1.next {m n j:Nat} {v q u u4:List Int} {S Q w:Int} (h:aG1 m n v S q u (j+1)) (hj:j+1≤m-n+1) (hnm:n≤m) (hv:lV v) (hvl:v.length=n) (hw:W u j (n+1)=w) (hQ:0≤Q) (hQB:Q<1000000000) (hQ1:Q*vD v≤w) (hQ2:w<(Q+1)*vD v)
  (h1:u4.length=m+1) (h2:lV u4) (h3:∀s,s<j∨j+n<s→u4.getD s 0=u.getD s 0) (h4:W u4 j (n+1)=w-Q*vD v):aG1 m n v S (q.set j Q) u4 j:=by
 have hV:=hv.lt
 rw [hvl] at hV
 have hR:W u 0 (m+1)=W u 0 j+PB j*w:=by
  have hlt:=h.lt
  unfold vD at hlt hV
  rw [h.ul] at hlt
  have hb:W v 0 v.length*PB (j+1)≤PB n*PB (j+1):=Int.mul_le_mul_of_nonneg_right (by omega) (by have:=uD (j+1);omega)
  rw [←aCj,show n+(j+1)=j+(n+1) by omega] at hb
  obtain⟨c,hc⟩:∃c,m+1=(j+(n+1))+c:=⟨m-j-n,by omega⟩
  rw [hc] at hlt ⊢
  rw [aKH h.uok (by omega),y6,Nat.zero_add,hw]
 have hR4:W u4 0 (m+1)=W u 0 j+PB j*(w-Q*vD v):=by
  obtain⟨c,hc⟩:∃c,m+1=(j+(n+1))+c:=⟨m-j-n,by omega⟩
  have hz:W u4 (j+(n+1)) c=W u (j+(n+1)) c:=aEA fun s _=>h3 _ (.inr (by omega))
  have hz0:PB (j+(n+1))*W u (j+(n+1)) c=0:=by
   have e:=hR
   rw [hc,y6,y6 u 0 j,Nat.zero_add,Nat.zero_add,hw] at e
   omega
  have hl:W u4 0 j=W u 0 j:=aEA fun s hs=>by rw [Nat.zero_add];exact h3 s (.inl hs)
  rw [hc,y6,y6 u4 0 j,Nat.zero_add,Nat.zero_add,hz,hz0,hl,h4]
  omega
 have hlo:=(aBS (h.uok.dr 0 j)).2
 have hlo0:=(aBS (h.uok.dr 0 j)).1
 refine⟨by simpa using h.ql,h1,h2,fun s hs=>?_,?_,?_⟩
 ·rw [aBm]
  by_cases e:s=j
  ·rw [if_pos ⟨e,by have:=h.ql;omega⟩];exact⟨hQ,hQB⟩
  ·rw [if_neg (fun x=>e x.1)];exact h.qok s (by omega)
 ·show W u4 0 u4.length<_
  rw [h1,hR4]
  have:PB j*(w-Q*vD v)≤PB j*(vD v-1):=Int.mul_le_mul_of_nonneg_left (by rw [Int.add_mul] at hQ2;omega) (by omega)
  have e:PB j*(vD v-1)=vD v*PB j-PB j:=by grind
  omega
 ·have hval:=h.val
  have e1:vD u=W u 0 (m+1):=by unfold vD;rw [h.ul]
  have e2:vD u4=W u4 0 (m+1):=by unfold vD;rw [h1]
  rw [e1,hR] at hval
  have hql:=h.ql
  rw [e2,hR4,show m-n+1-j=(m-n+1-(j+1))+1 by omega,aDJ,eA (by omega),aAg (.inl (by omega))]
  simp only [PB] at hval
  rw [hval]
  grind
theorem aGI {b v:List Int} {N m:Nat} {S:Int} (hb:b.length=N+2) (hL:m≤900000000000) (hnm:N+2≤m) (hv:lV v) (hvl:v.length=N+2) (hv1:500000000≤v.getD (N+1) 0):∀(J:Nat) (q u:List Int),J≤m-(N+2)+1→aG1 m (N+2) v S q u J→
  ∃q' u',aG1 m (N+2) v S q' u' 0∧xZ (fun K k=>fB K b v k q u ((J:Int)-1)) (q',u')
 |0,q,u,_,h=>⟨q,u,h,xZ.of 1 fun K k hk=>by
   obtain⟨k',rfl,_⟩:=aY (n:=0) hk
   simp [fB]⟩
 |j+1,q,u,hJ,h=>by
  have hul:=h.ul
  have hql:=h.ql
  obtain⟨v1,e1⟩:∃x,v.getD (N+1) 0=x:=⟨_,rfl⟩
  obtain⟨v2,e2⟩:∃x,v.getD N 0=x:=⟨_,rfl⟩
  obtain⟨u2,e3⟩:∃x,u.getD (j+N) 0=x:=⟨_,rfl⟩
  obtain⟨u1,e4⟩:∃x,u.getD (j+N+1) 0=x:=⟨_,rfl⟩
  obtain⟨u0,e5⟩:∃x,u.getD (j+N+2) 0=x:=⟨_,rfl⟩
  have d1:=hv (N+1);have d2:=hv N;have d3:=h.uok (j+N);have d4:=h.uok (j+N+1);have d5:=h.uok (j+N+2)
  rw [e1] at d1 hv1;rw [e2] at d2;rw [e3] at d3;rw [e4] at d4;rw [e5] at d5
  have hP:=uD N
  have hVd:vD v=W v 0 N+(v1*1000000000+v2)*PB N:=by
   unfold vD
   rw [hvl,y6,Nat.zero_add,W2,e1,e2,Int.mul_comm (PB N)];grind
  have hwl:=aBS (h.uok.dr j N)
  have hvl2:=aBS (hv.dr 0 N)
  obtain⟨w,hw⟩:∃x,W u j (N+2+1)=x:=⟨_,rfl⟩
  have hwd:w=W u j N+((u0*1000000000+u1)*1000000000+u2)*PB N:=by
   rw [←hw,show N+2+1=N+3 by omega,y6,aDJ,aDJ,W1,e3,e4,show j+N+1+1=j+N+2 by omega,e5];grind
  have hVn:=hv.nonneg
  have hVpos:0<vD v:=by
   have:1*PB N≤(v1*1000000000+v2)*PB N:=Int.mul_le_mul_of_nonneg_right (by omega) (by omega)
   omega
  obtain⟨V,hV⟩:∃x,vD v=x:=⟨_,rfl⟩
  have hVlt:=hv.lt
  rw [hvl] at hVlt
  rw [hV] at hVd hVpos hVn hVlt
  have hwV:w<V*1000000000:=by
   have hlt:=h.lt
   rw [hV] at hlt
   have hb':V*PB (j+1)≤PB (N+2)*PB (j+1):=Int.mul_le_mul_of_nonneg_right (by omega) (by have:=uD (j+1);omega)
   rw [←aCj,show N+2+(j+1)=j+(N+2+1) by omega] at hb'
   obtain⟨c,hc⟩:∃c,m+1=(j+(N+2+1))+c:=⟨m-j-(N+2),by omega⟩
   unfold vD at hlt
   rw [hul,hc] at hlt
   rw [aKH h.uok (by omega),y6,Nat.zero_add,hw] at hlt
   have h0:=(aBS (h.uok.dr 0 j)).1
   simp only [PB] at hlt
   have:w*PB j<V*1000000000*PB j:=by
    rw [Int.mul_assoc,Int.mul_comm 1000000000,Int.mul_comm w];omega
   exact wV (uD j) this
  have hw0:0≤w:=by rw [←hw];exact(aBS (h.uok.dr j _)).1
  obtain⟨Q,hQ⟩:∃x,w/V=x:=⟨_,rfl⟩
  have hQ0:0≤Q:=by rw [←hQ];exact Int.ediv_nonneg hw0 (by omega)
  have hdm:=Int.mul_ediv_add_emod w V
  have hm0:=Int.emod_nonneg w (show V≠0 by omega)
  have hm1:=Int.emod_lt_of_pos w hVpos
  rw [hQ] at hdm
  have hQ1:Q*V≤w:=by rw [Int.mul_comm];omega
  have hQ2:w<(Q+1)*V:=by rw [Int.add_mul,Int.mul_comm];omega
  have hQB:Q<1000000000:=wV hVpos (by rw [Int.mul_comm 1000000000 V];omega)
  obtain⟨top,htop⟩:∃x,u0*1000000000+u1=x:=⟨_,rfl⟩
  have hV1:(v1*1000000000+v2)*PB N≤V:=by omega
  have hV2:V<(v1*1000000000+v2+1)*PB N:=by rw [Int.add_mul,Int.one_mul];omega
  have hw1:(top*1000000000+u2)*PB N≤w:=by rw [←htop];omega
  have hw2:w<(top*1000000000+u2+1)*PB N:=by rw [←htop,Int.add_mul _ 1,Int.one_mul];omega
  have htlim:top≤v1*1000000000+v2:=by
   have t1:(top*1000000000)*PB N≤(top*1000000000+u2)*PB N:=Int.mul_le_mul_of_nonneg_right (by omega) (by omega)
   have t2:(top*1000000000)*PB N<((v1*1000000000+v2+1)*1000000000)*PB N:=by
    have:(v1*1000000000+v2+1)*1000000000*PB N=(v1*1000000000+v2+1)*PB N*1000000000:=by grind
    rw [this]
    omega
   have t3:=wV hP t2
   omega
  obtain⟨g0,hg0⟩:∃x,top/v1=x:=⟨_,rfl⟩
  obtain⟨r0,hr0⟩:∃x,top%v1=x:=⟨_,rfl⟩
  have hdm2:=Int.mul_ediv_add_emod top v1
  have hr1:=Int.emod_nonneg top (show v1≠0 by omega)
  have hr2:=Int.emod_lt_of_pos top (show 0<v1 by omega)
  rw [hg0,hr0] at hdm2
  rw [hr0] at hr1 hr2
  have hg00:0≤g0:=by rw [←hg0];exact Int.ediv_nonneg (by omega) (by omega)
  have hgq:Q<g0+1:=by
   refine aJy hP hV1 hw2 hQ1 (by omega) ?_ (by omega)
   have m1:(g0+1)*(v1*1000000000+v2)=(v1*g0+v1)*1000000000+(g0+1)*v2:=by grind
   have m2:0≤(g0+1)*v2:=Int.mul_nonneg (by omega) d2.1
   rw [m1]
   omega
  have hgm:g0≤1000000001:=by
   have:g0*v1<1000000002*v1:=by rw [Int.mul_comm g0];omega
   have:=wV (show 0<v1 by omega) this
   omega
  obtain⟨g,⟨hg1,hg2,hg3⟩,hgF⟩:=aG7 (b:=b) (v:=v) (u:=u) (j:=j) hb (by omega) hvl (by omega) (by omega) e1 e2 e3 hP (Int.le_of_lt hVpos) hv1 d1.2 d2.1 d2.2 d3.1 d3.2 hV1 hV2 hw1 hw2 hwV hQ0 hQ1 hQ2 2 g0 r0 hr1 (by omega) (by omega) (by rw [Int.mul_comm];omega) (by omega) hgm
  obtain⟨u',c',hS,hSF⟩:=aEO (b:=b) (v:=v) (u0:=u) (j:=j) (g:=g) (by omega) hg3 hv (by omega) (by omega) (by omega) b.length 0 u 0 (by omega) ⟨rfl,h.uok,by omega,by omega,fun _ _=>rfl,by simp [W]⟩
  have hSl:=hS.len
  have hSc0:=hS.c0
  have hSc1:=hS.c1
  have hSv:=hS.val
  rw [hb] at hSv
  have hSs:u'.getD (j+N+2) 0=u0:=by rw [hS.same _ (.inr (by omega)),e5]
  obtain⟨t,ht⟩:∃x,u0-c'=x:=⟨_,rfl⟩
  have hVW:W v 0 (N+2)=V:=by rw [←hV];unfold vD;rw [hvl]
  rw [hVW] at hSv
  have hWn:w=W u j (N+2)+u0*PB (N+2):=by rw [←hw,dU,←Nat.add_assoc,e5]
  have hWu':=aBS (hS.ok.dr j (N+2))
  have hPn:=uD (N+2)
  have hD:W u' j (N+2)+t*PB (N+2)=w-g*V:=by rw [←ht,Int.sub_mul];omega
  have i1:decide (0≤(j:Int))=true:=dT (by omega)
  have i0:((j+1:Nat):Int)-1=(j:Int):=by omega
  have i2:aS ((j:Int)+(b.length:Int))=some ((j+N+2:Nat):Int):=ckN (m:=0) (by omega) (by omega)
  have i3:=bZ (xs:=u) (i:=j+N+2) (by omega)
  rw [e5] at i3
  have i4:aS (u0*1000000000)=some (u0*1000000000):=vX (by omega)
  have i5:aS (((j+N+2:Nat):Int)-1)=some ((j+N+1:Nat):Int):=ckN (m:=0) (by omega) (by omega)
  have i6:=bZ (xs:=u) (i:=j+N+1) (by omega)
  rw [e4] at i6
  have i7:aS (u0*1000000000+u1)=some top:=by rw [htop];exact vX (by omega)
  have i8:aS ((b.length:Int)-1)=some ((N+1:Nat):Int):=ckN (m:=0) (by omega) (by omega)
  have i9:=bZ (xs:=v) (i:=N+1) (by omega)
  rw [e1] at i9
  have i10:chq top v1=some g0:=by rw [←hg0];exact xV (by omega) (by omega) (by omega)
  have i11:chr top v1=some r0:=by rw [←hr0];exact u5 (by omega) (by omega)
  have i12:=bZ (xs:=u') (i:=j+N+2) (by omega)
  rw [hSs] at i12
  have i13:aS (u0-c')=some t:=by rw [ht];exact vX (by omega)
  have i14:qL u' ((j+N+2:Nat):Int) t=some (u'.set (j+N+2) t):=vQ (by omega)
  have i15:bF (u'.set (j+N+2) t) ((j+N+2:Nat):Int)=some t:=by rw [bZ (by simp;omega),eA (by omega)]
  have i16:aS ((j:Int)-1)=some ((j:Int)-1):=vX (by omega)
  have i17:=bZ (xs:=q) (i:=j) (by omega)
  have i18:∀x,qL q (j:Int) x=some (q.set j x):=fun x=>vQ (by omega)
  have hgF':Ev (fun K=>eG K b v u (j:Int) K g0 r0) g:=⟨3,fun K hK=>hgF K K (by omega)⟩
  have hSF':Ev (fun K=>fS K b v (j:Int) g K u 0 0) (u',c'):=⟨b.length+1,fun K hK=>hSF K K (by omega)⟩
  by_cases hneg:t<0
  ·
   have hgQ:g=Q+1:=by
    have:t*PB (N+2)≤(-1)*PB (N+2):=Int.mul_le_mul_of_nonneg_right (by omega) (by omega)
    rcases Int.lt_or_le Q g with h1|h1
    ·omega
    ·have:g=Q:=by omega
     subst this
     omega
   obtain⟨u3,c3,hB,hBF⟩:=aHF (b:=b) (v:=v) (u0:=u'.set (j+N+2) t) (j:=j) hv (by omega) (by simp;omega) (by simp;omega) b.length 0 (u'.set (j+N+2) t) 0 (by omega)
    ⟨rfl,fun s hs=>by rw [fP (by omega)];exact hS.ok s,by omega,by omega,fun _ _=>rfl,by simp [W]⟩
   have hBl:=hB.len
   simp only [List.length_set] at hBl
   have hBs:u3.getD (j+N+2) 0=t:=by rw [hB.same _ (.inr (by omega)),eA (by omega)]
   have hBv:=hB.val
   rw [hb,aAg (.inr (by omega)),hVW] at hBv
   have hWu3:=aBS (u:=u3) (j:=j) (n:=N+2) fun s hs=>hB.ok _ (by omega)
   have hx:t+c3=0:=by
    have hfin:W u3 j (N+2)+(t+c3)*PB (N+2)=w-Q*V:=by
     rw [hgQ,Int.add_mul,Int.one_mul] at hD
     rw [Int.add_mul];omega
    have hlim:w-Q*V<V:=by rw [Int.add_mul] at hQ2;omega
    rcases Int.lt_trichotomy (t+c3) 0 with hx|hx|hx
    ·have:(t+c3)*PB (N+2)≤(-1)*PB (N+2):=Int.mul_le_mul_of_nonneg_right (by omega) (by omega)
     omega
    ·exact hx
    ·have:1*PB (N+2)≤(t+c3)*PB (N+2):=Int.mul_le_mul_of_nonneg_right (by omega) (by omega)
     omega
   obtain⟨q',u'',h5,h6⟩:=aGI hb hL hnm hv hvl (by rw [e1];exact hv1) j (q.set j Q) (u3.set (j+N+2) (t+c3)) (by omega)
    (h.next hJ hnm hv hvl hw hQ0 hQB (by rw [hV];exact hQ1) (by rw [hV];exact hQ2) (by simp;omega) (fun s=>by
      rw [aBm]
      by_cases e:s=j+N+2
      ·rw [if_pos ⟨e,by omega⟩,hx];omega
      ·rw [if_neg (fun x=>e x.1)]
       rcases Nat.lt_or_ge s (j+N+2) with h1|h1
       ·exact hB.ok s (by omega)
       ·rw [hB.same s (.inr (by omega)),fP (by omega),hS.same s (.inr (by omega))];exact h.uok s) (fun s hs=>by
      rw [fP (by omega)]
      rw [hB.same s (by omega),fP (by omega),hS.same s (by omega)]) (by
      rw [dU,←Nat.add_assoc,eA (by omega),aAg (.inr (by omega)),hV]
      rw [hgQ,Int.add_mul,Int.one_mul] at hD
      rw [Int.add_mul];omega))
   refine⟨q',u'',h5,xZ.step ?_⟩
   have k1:aS (g-1)=some Q:=by rw [show g-1=Q by omega];exact vX (by omega)
   have k2:=bZ (xs:=u3) (i:=j+N+2) (by omega)
   rw [hBs] at k2
   have hc30:=hB.c0
   have hc31:=hB.c1
   have k3:aS (t+c3)=some (t+c3):=vX (by omega)
   have k4:qL u3 ((j+N+2:Nat):Int) (t+c3)=some (u3.set (j+N+2) (t+c3)):=vQ (by omega)
   have hBF':Ev (fun K=>jL K b v (j:Int) K (u'.set (j+N+2) t) 0 0) (u3,c3):=⟨b.length+1,fun K hK=>hBF K K (by omega)⟩
   rw [i0]
   simp only [fB,i1,i2,i3,i4,i5,i6,i7,i8,i9,i10,i11,bS,oB]
   refine xZ.bind hgF' ?_
   simp only [qU]
   refine xZ.bind hSF' ?_
   simp only [qR,i2,i12,i13,i14,i15,dT hneg,bS,oB,k1]
   refine xZ.bind hBF' ?_
   simp only [t7,i2,k2,k3,k4,i17,i18,i16,oB]
   exact h6
  ·have hgQ:g=Q:=by
    have:0≤t*PB (N+2):=Int.mul_nonneg (by omega) (by omega)
    rcases Int.lt_or_le Q g with h1|h1
    ·have:g=Q+1:=by omega
     subst this
     omega
    ·omega
   subst hgQ
   have hx:t=0:=by
    have hlim:w-g*V<V:=by rw [Int.add_mul] at hQ2;omega
    rcases Int.lt_or_le 0 t with hx|hx
    ·have:1*PB (N+2)≤t*PB (N+2):=Int.mul_le_mul_of_nonneg_right (by omega) (by omega)
     omega
    ·omega
   obtain⟨q',u'',h5,h6⟩:=aGI hb hL hnm hv hvl (by rw [e1];exact hv1) j (q.set j g) (u'.set (j+N+2) t) (by omega)
    (h.next hJ hnm hv hvl hw hQ0 hQB (by rw [hV];exact hQ1) (by rw [hV];exact hQ2) (by simp;omega) (hS.ok.set (by omega) (by omega)) (fun s hs=>by
      rw [fP (by omega)]
      rw [hS.same s (by omega)]) (by
      rw [dU,←Nat.add_assoc,eA (by omega),aAg (.inr (by omega)),hV]
      omega))
   refine⟨q',u'',h5,xZ.step ?_⟩
   rw [i0]
   simp only [fB,i1,i2,i3,i4,i5,i6,i7,i8,i9,i10,i11,bS,oB]
   refine xZ.bind hgF' ?_
   simp only [qU]
   refine xZ.bind hSF' ?_
   simp only [qR,i2,i12,i13,i14,i15,dF hneg,bM,oB,i17,i18,i16]
   exact h6
end Go.Proofs.YtolfcbpgmfbgmaaGreat
set_option linter.unusedVariables false
namespace Go.Proofs.YtolfcbpgmfbgmaaGreat
theorem aMj {b s:Int} (h0:1≤b) (h1:b<1000000000) (hs:s=1000000000/(b+1)):1≤s∧s≤500000000∧500000000≤s*b∧s*(b+1)≤1000000000:=by
 have d:=Int.mul_ediv_add_emod 1000000000 (b+1)
 have m0:=Int.emod_nonneg 1000000000 (show b+1≠0 by omega)
 have m1:=Int.emod_lt_of_pos 1000000000 (show 0<b+1 by omega)
 rw [←hs] at d
 have hs1:1≤s:=by
  rcases Int.lt_or_le 0 s with h|h
  ·exact h
  ·have:(b+1)*s≤0:=Int.mul_nonpos_of_nonneg_of_nonpos (by omega) (by omega)
   omega
 have hs2:2*s≤(b+1)*s:=Int.mul_le_mul_of_nonneg_right (by omega) (by omega)
 have e1:(b+1)*s=s*b+s:=by grind
 have e2:s*(b+1)=s*b+s:=by grind
 have e3:0≤(s-1)*(b-1):=Int.mul_nonneg (by omega) (by omega)
 have e4:(s-1)*(b-1)=s*b-s-b+1:=by grind
 refine⟨hs1,by omega,by omega,by omega⟩
theorem aHv {u:List Int} {n i:Nat} (h:i<n):(u.take n).getD i 0=u.getD i 0:=by
 simp only [List.getD_eq_getElem?_getD,List.getElem?_take];rw [if_pos h]
theorem lV.take {u:List Int} (h:lV u) (n:Nat):lV (u.take n):=fun i=>by
 rcases Nat.lt_or_ge i n with h1|h1
 ·rw [aHv h1];exact h i
 ·rw [xB (by simp;omega)];omega
theorem aLY {u:List Int} {n:Nat} (h:lV u) (hn:n≤u.length) (hv:vD u<PB n):vD (u.take n)=vD u:=by
 obtain⟨c,hc⟩:=Nat.exists_eq_add_of_le hn
 have e:(u.take n).length=n:=by simp;omega
 unfold vD at *
 rw [e]
 rw [hc] at hv ⊢
 rw [aKH h hv]
 exact aEA fun i hi=>by rw [Nat.zero_add];exact aHv hi
theorem aNB {a b:List Int} (ha:lV a) (hb:lV b) (tb:Top b) (hb2:2≤b.length) (hab:b.length≤a.length) (hL:a.length≤60000000000):
  ∃q r,q.length≤a.length∧r.length≤a.length∧lV q∧lV r∧vD q=vD a/vD b∧vD r=vD a%vD b∧Ev (fun K=>wM K a b) (q,r):=by
 obtain⟨N,hN⟩:∃N,b.length=N+2:=⟨b.length-2,by omega⟩
 have hbn:b≠[]:=by intro e;subst e;simp at hN
 obtain⟨b1,hb1⟩:∃x,b.getD (N+1) 0=x:=⟨_,rfl⟩
 have hb1d:=hb (N+1)
 rw [hb1] at hb1d
 have hb10:b1≠0:=by
  rcases tb with h|h
  ·exact absurd h hbn
  ·rw [hN,show N+2-1=N+1 by omega,hb1] at h;exact h
 obtain⟨s,hs⟩:∃x,1000000000/(b1+1)=x:=⟨_,rfl⟩
 obtain⟨hs1,hs2,hs3,hs4⟩:=aMj (b:=b1) (by omega) hb1d.2 hs.symm
 obtain⟨u,hul,huo,huv,huF⟩:=aGx (a:=a) (f:=s) ha (by omega) (by omega) hL
 obtain⟨vb,hvl,hvo,hvv,hvF⟩:=aGx (a:=b) (f:=s) hb (by omega) (by omega) (by omega)
 have hPN:=uD (N+1)
 have hbv:vD b=W b 0 (N+1)+b1*PB (N+1):=by unfold vD;rw [hN,dU,Nat.zero_add,hb1]
 have hbw:=aBS (hb.dr 0 (N+1))
 have hVlt:vD vb<PB (N+2):=by
  rw [hvv]
  have h1:vD b<(b1+1)*PB (N+1):=by rw [Int.add_mul,Int.one_mul];omega
  have h2:s*vD b<s*((b1+1)*PB (N+1)):=Int.mul_lt_mul_of_pos_left h1 (by omega)
  have h3:s*(b1+1)*PB (N+1)≤1000000000*PB (N+1):=Int.mul_le_mul_of_nonneg_right hs4 (by omega)
  rw [Int.mul_assoc] at h3
  show _<PB (N+1)*1000000000
  omega
 have hv1:=hvo.take (N+2)
 have hvd:=aLY (n:=N+2) hvo (by omega) hVlt
 have hvtl:(vb.take (N+2)).length=N+2:=by simp;omega
 obtain⟨v,hv⟩:∃x,vb.take (N+2)=x:=⟨_,rfl⟩
 rw [hv] at hv1 hvd hvtl
 have hVs:vD v=s*vD b:=by rw [hvd,hvv]
 have hV1:500000000≤v.getD (N+1) 0:=by
  have e:vD v=W v 0 (N+1)+v.getD (N+1) 0*PB (N+1):=by unfold vD;rw [hvtl,dU,Nat.zero_add]
  have h1:=(aBS (hv1.dr 0 (N+1))).2
  have h2:s*(b1*PB (N+1))≤s*vD b:=Int.mul_le_mul_of_nonneg_left (by omega) (by omega)
  rw [←Int.mul_assoc] at h2
  have h3:s*b1*PB (N+1)<(v.getD (N+1) 0+1)*PB (N+1):=by rw [Int.add_mul _ 1,Int.one_mul];omega
  have:=wV hPN h3
  omega
 have hbpos:=tb.pos hb hbn
 rw [hN,show N+2-1=N+1 by omega] at hbpos
 have start:aG1 a.length (N+2) v (s*vD a) (List.replicate (a.length-(N+2)+1) 0) u (a.length-(N+2)+1):=by
  refine⟨by simp,hul,huo,fun t _=>?_,?_,?_⟩
  ·simp only [List.getD_eq_getElem?_getD,List.getElem?_replicate];split<;>simp
  ·rw [huv,hVs]
   have h1:=ha.lt
   have e:a.length=(N+1)+(a.length-(N+2)+1):=by omega
   rw [e,aCj] at h1
   have hp:=uD (a.length-(N+2)+1)
   have h2:PB (N+1)*PB (a.length-(N+2)+1)≤vD b*PB (a.length-(N+2)+1):=Int.mul_le_mul_of_nonneg_right hbpos (by omega)
   have h3:s*vD a<s*(vD b*PB (a.length-(N+2)+1)):=Int.mul_lt_mul_of_pos_left (by omega) (by omega)
   rw [←Int.mul_assoc] at h3
   exact h3
  ·rw [huv,Nat.sub_self,aQP];simp
 obtain⟨q,u',hP,hF⟩:=aGI (b:=b) (m:=a.length) hN (by omega) (by omega) hv1 hvtl hV1 _ _ _ (Nat.le_refl _) start
 have hql:=hP.ql
 have hu'l:=hP.ul
 have hqo:lV q:=fun i=>hP.qok i (Nat.zero_le _)
 have hlt:=hP.lt
 have hval:=hP.val
 rw [hVs] at hlt hval
 simp only [PB,Int.mul_one,Int.one_mul,Nat.sub_zero] at hlt hval
 have hqv:vD q=W q 0 (a.length-(N+2)+1):=by unfold vD;rw [hql]
 rw [←hqv] at hval
 have hu'n:=hP.uok.nonneg
 have hu'lt:vD u'<PB (N+2):=by rw [←hVs,hvd] at hlt;omega
 have hto:=hP.uok.take (N+2)
 have htv:=aLY (n:=N+2) hP.uok (by omega) hu'lt
 have htl:(u'.take (N+2)).length=N+2:=by simp;omega
 obtain⟨r,r0,hrl,hro,hrv,hr0,hrF⟩:=aHm (a:=u'.take (N+2)) (b:=s) hto (by omega) (by omega) (by omega)
 have hrho:vD u'=s*(vD a-vD b*vD q):=by
  rw [Int.mul_sub,←Int.mul_assoc];omega
 have hr:vD r=vD a-vD b*vD q:=by
  rw [hrv,htv,hrho,Int.mul_ediv_cancel_left _ (by omega)]
 have hrn:0≤vD r:=hro.nonneg
 have hrb:vD r<vD b:=by
  rw [hrho,←hr] at hlt
  rw [Int.mul_comm,Int.mul_comm s] at hlt
  exact wV (by omega) hlt
 have hbp:0<vD b:=by omega
 refine⟨q,r,by omega,by omega,hqo,hro,?_,?_,?_⟩
 ·have e:vD a=vD r+vD b*vD q:=by omega
  rw [e,Int.add_mul_ediv_left _ _ (by omega),Int.ediv_eq_zero_of_lt hrn hrb,Int.zero_add]
 ·have e:vD a=vD r+vD b*vD q:=by omega
  rw [e,Int.add_mul_emod_self_left,Int.emod_eq_of_lt hrn hrb]
 ·have e1:aS ((b.length:Int)-1)=some ((N+1:Nat):Int):=ckN (m:=0) (by omega) (by omega)
  have e2:=bZ (xs:=b) (i:=N+1) (by omega)
  rw [hb1] at e2
  have e3:aS (b1+1)=some (b1+1):=vX (by omega)
  have e4:chq 1000000000 (b1+1)=some s:=by rw [←hs];exact xV (by omega) (by omega) (by omega)
  have e5:slL vb 0 (b.length:Int)=some v:=by rw [hN,←hv];exact aId (by omega)
  have e6:aS ((a.length:Int)-(b.length:Int))=some ((a.length-(N+2):Nat):Int):=ckN (m:=0) (by omega) (by omega)
  have e7:aS (((a.length-(N+2):Nat):Int)+1)=some ((a.length-(N+2)+1:Nat):Int):=ckN (m:=0) (by omega) (by omega)
  have e8:mkL ((a.length-(N+2)+1:Nat):Int) (0:Int)=some (List.replicate (a.length-(N+2)+1) 0):=aBM (by omega)
  have e9:((a.length-(N+2):Nat):Int)=((a.length-(N+2)+1:Nat):Int)-1:=by omega
  have e10:slL u' 0 (b.length:Int)=some (u'.take (N+2)):=by rw [hN];exact aId (by omega)
  simp only [wM,e1,e2,e3,e4,oB]
  refine Ev.bind huF (Ev.bind hvF ?_)
  simp only [e5,e6,e7,e8,oB]
  rw [e9]
  refine Ev.bind hF.ev ?_
  simp only [uP,e10,oB]
  exact Ev.bind hrF (Ev.pure _)
theorem aOX {n:Nat} (h:n≤18446744073709551615):IntKind.u64.wrap (n:Int)=(n:Int):=IntWalk.u64_in _ ⟨by omega,by omega⟩
theorem aKC (m n:Nat):dl (m/n)≤dl m:=sW (Nat.div_le_self m n)
theorem aIk (m n:Nat):dl (m%n)≤dl m:=sW (Nat.mod_le m n)
theorem aAN {n:Nat} (h:(bO n).length≤2):n<1000000000000000000:=by
 have:=aFI n
 have h2:=aEy (a:=dl n) (b:=2) h
 have:PB 2=1000000000000000000:=by decide
 omega
theorem aGb {m n:Nat} (hn:0<n) (hL:dl m≤60000000000):Ev (fun K=>oN K (bO m) (bO n)) (Z (m/n:Nat),Z (m%n:Nat)):=by
 have dm:=bN m;have dn:=bN n
 have vm:=dJ m;have vn:=dJ n
 have tm:=pL m;have tn:=pL n
 have lm:(bO m).length=dl m:=rfl
 have ln:(bO n).length=dl n:=rfl
 have key:Ev (fun K=>nJ K (bO m) (bO n)) (Z (m/n:Nat),Z (m%n:Nat)):=by
  unfold nJ
  refine Ev.bind (aA1 dm dn tm tn (by omega)) ?_
  rw [vm,vn]
  unfold xK
  by_cases hlt:m<n
  ·rw [if_pos (by omega)]
   have h1:=z5 false dm (by omega)
   rw [vm,Int.toNat_natCast,o5] at h1
   refine Ev.congr (g:=fun K=>(eK K false (bO m)).bind fun v8=>some ((⟨false,([]:List Int)⟩:aE),v8)) ?_ (fun K=>rfl)
   refine Ev.bind h1 ?_
   rw [Nat.div_eq_of_lt hlt,Nat.mod_eq_of_lt hlt]
   have:Z ((0:Nat):Int)=⟨false,[]⟩:=by rw [←o5];rfl
   rw [this]
   exact Ev.pure _
  ·have hc:decide ((if(m:Int)<n then(-1:Int) else if(n:Int)<m then 1 else 0)<0)=false:=by
    rw [if_neg (by omega)]
    split<;>rfl
   simp only [hc,bM]
   have hle:dl n≤dl m:=sW (by omega)
   have hn0:dl n≠0:=by rw [Ne,xP];omega
   by_cases h1:dl n=1
   ·have e1:(((bO n).length:Int)==1)=true:=qT (by omega)
    obtain⟨a1,a2⟩:=aCA h1
    have e2:=bZ (xs:=bO n) (i:=0) (by omega)
    simp only [Int.natCast_zero] at e2
    rw [a1] at e2
    obtain⟨q,r,g1,g2,g3,g4,g5⟩:=aHm (a:=bO m) (b:=(n:Int)) dm (by omega) (by omega) (by omega)
    rw [vm] at g3 g4
    have h2:=z5 false g2 (by omega)
    rw [g3,o5] at h2
    simp only [e1,bS,e2,oB]
    refine Ev.bind g5 (Ev.bind h2 ?_)
    have hr:r=((m%n:Nat):Int):=by rw [g4];simp
    have hrlt:m%n<n:=Nat.mod_lt _ hn
    rw [hr,aOX (by omega),uV false (by omega),oB,o5]
    have:((((m:Int)/n).toNat:Nat):Int)=((m/n:Nat):Int):=by rw [←Int.natCast_ediv,Int.toNat_natCast]
    rw [this]
    exact Ev.pure _
   ·have e1:(((bO n).length:Int)==1)=false:=qF (by omega)
    obtain⟨q,r,g1,g2,g3,g4,g5,g6,g7⟩:=aNB dm dn tn (by omega) (by omega) (by omega)
    rw [vm,vn] at g5 g6
    have h2:=z5 false g3 (by omega)
    have h3:=z5 false g4 (by omega)
    rw [g5,o5] at h2
    rw [g6,o5] at h3
    simp only [e1,bM]
    refine Ev.bind g7 (Ev.bind h2 (Ev.bind h3 ?_))
    have e3:((((m:Int)/n).toNat:Nat):Int)=((m/n:Nat):Int):=by rw [←Int.natCast_ediv,Int.toNat_natCast]
    have e4:((((m:Int)%n).toNat:Nat):Int)=((m%n:Nat):Int):=by rw [←Int.natCast_emod,Int.toNat_natCast]
    rw [e3,e4]
    exact Ev.pure _
 unfold oN
 rw [aCS dm,aCS dn]
 simp only [oB]
 by_cases h1:(bO m).length≤2
 ·by_cases h2:(bO n).length≤2
  ·rw [if_pos h1,if_pos h2]
   simp only [bS,vm,vn]
   have b1:=aAN h1
   have hd:=Nat.div_le_self m n
   have hm:=Nat.mod_le m n
   have e1:chq (m:Int) (n:Int)=some ((m/n:Nat):Int):=by rw [xV (by omega) (by omega) (by omega)];simp
   have e2:chr (m:Int) (n:Int)=some ((m%n:Nat):Int):=by rw [u5 (by omega) (by omega)];simp
   simp only [e1,e2,oB]
   rw [aOX (by omega),aOX (by omega),uV false (by omega),uV false (by omega)]
   simp only [oB,o5]
   exact Ev.pure _
  ·rw [if_pos h1,if_neg h2]
   simp only [bS,bM]
   exact key
 ·rw [if_neg h1]
  simp only [bM]
  exact key
theorem aLU {x y:Int} (hy:y≠0) (hx:dl x.natAbs≤40000000000) (hy2:dl y.natAbs≤40000000000):Ev (fun K=>vL K (Z x) (Z y)) (Z (x/y),Z (x%y)):=by
 have hyl:dl y.natAbs≠0:=by rw [Ne,xP];omega
 have e1:(((bO y.natAbs).length:Int)==0)=false:=qF (by show(dl y.natAbs:Int)≠0;omega)
 have hm0:=Nat.mod_lt x.natAbs (show 0<y.natAbs by omega)
 have hd:∀n:Nat,((Z (n:Int)).d.length:Int)=dl n:=fun n=>by rw [uM];simp
 have hdm:=aKC x.natAbs y.natAbs
 have hmm:=aIk x.natAbs y.natAbs
 have hnd:=Nat.div_add_mod x.natAbs y.natAbs
 have bI:∀(q r:Nat),((if(x<0)↔(y<0) then(q:Int) else -(q:Int))=x/y)→((r:Int)=x%y)→Ev (fun K=>nA K (Z x) (Z y) (Z r) (Z q)) (Z (x/y),Z (x%y)):=by
  intro q r hq hr
  refine Ev.of fun K=>?_
  unfold nA
  rw [uA,uA,←hq,←hr]
  by_cases hs:(x<0)↔(y<0)
  ·have e:(decide (x<0) != decide (y<0))=false:=by simp [hs]
   rw [e,bM,if_pos hs]
   have:(Z (q:Int))=⟨false,(Z (q:Int)).d⟩:=by unfold Z;simp
   rw [←this]
  ·have e:(decide (x<0) != decide (y<0))=true:=by simp;exact hs
   rw [e,bS,if_neg hs]
   congr 2
   unfold Z
   rw [Int.natAbs_neg]
   congr 1
   have:(bO (q:Int).natAbs).length=dl q:=by simp [dl]
   rw [this]
   by_cases h0:q=0
   ·subst h0;rw [yE];rfl
   ·have:dl q≠0:=by rw [Ne,xP];exact h0
    rw [dT (by omega),dT (by omega)]
 have eT:∀z:Int,(z.natAbs:Int)=z∨(z.natAbs:Int)=-z:=fun z=>by omega
 unfold vL
 simp only [e1,bM,Z_d,uA]
 refine Ev.bind (aGb (m:=x.natAbs) (n:=y.natAbs) (by omega) (by omega)) ?_
 have c1:(x.natAbs:Int)=(y.natAbs:Int)*((x.natAbs/y.natAbs:Nat):Int)+((x.natAbs%y.natAbs:Nat):Int):=by
  rw [←Int.natCast_mul,←Int.natCast_add,hnd]
 generalize hq:x.natAbs/y.natAbs=q at *
 generalize hr:x.natAbs%y.natAbs=r at *
 have uniq:∀a b:Int,x=y*a+b→0≤b→b<y.natAbs→x/y=a∧x%y=b:=by
  intro a b h1 h2 h3
  have hm:x%y=b:=by
   rw [h1,Int.add_comm,Int.add_mul_emod_self_left]
   by_cases hy0:y<0
   ·have:b%y=b% -y:=by rw [Int.emod_neg]
    rw [this,Int.emod_eq_of_lt h2 (by omega)]
   ·exact Int.emod_eq_of_lt h2 (by omega)
  refine⟨?_,hm⟩
  have h4:=Int.mul_ediv_add_emod x y
  exact Int.eq_of_mul_eq_mul_left hy (by omega)
 by_cases hx0:x<0
 ·have e2:decide (x<0)=true:=dT hx0
  simp only [e2,bS]
  by_cases hr0:r=0
  ·subst hr0
   have e3:decide (0<((Z ((0:Nat):Int)).d.length:Int))=false:=by rw [Z_d,show((0:Nat):Int).natAbs=0 from rfl,aAZ];rfl
   simp only [e3,bM]
   refine bI q 0 ?_ ?_
   ·by_cases hy0:y<0
    ·rw [if_pos (by simp [hx0,hy0])]
     refine((uniq q 0 ?_ (by omega) (by omega)).1).symm
     rw [show(y.natAbs:Int)=-y by omega,show(x.natAbs:Int)=-x by omega] at c1
     rw [Int.neg_mul] at c1;omega
    ·rw [if_neg (by simp [hx0,hy0])]
     refine((uniq (-q) 0 ?_ (by omega) (by omega)).1).symm
     rw [show(y.natAbs:Int)=y by omega,show(x.natAbs:Int)=-x by omega] at c1
     rw [Int.mul_neg];omega
   ·by_cases hy0:y<0
    ·refine((uniq q 0 ?_ (by omega) (by omega)).2).symm
     rw [show(y.natAbs:Int)=-y by omega,show(x.natAbs:Int)=-x by omega] at c1
     rw [Int.neg_mul] at c1;omega
    ·refine((uniq (-q) 0 ?_ (by omega) (by omega)).2).symm
     rw [show(y.natAbs:Int)=y by omega,show(x.natAbs:Int)=-x by omega] at c1
     rw [Int.mul_neg];omega
  ·have hrl:dl r≠0:=by rw [Ne,xP];exact hr0
   have e3:decide (0<((Z (r:Int)).d.length:Int))=true:=dT (by rw [uM];simp only [Int.natAbs_natCast];omega)
   simp only [e3,bS]
   simp only [Z_d,Int.natAbs_natCast]
   have d1:lV [1]:=lV.nil.cons (by omega) (by omega)
   obtain⟨p,p1,p2,p3,p4⟩:=aJk (bN q) d1 (by show dl q≤_;omega) (by simp)
   rw [dJ,vD1] at p3
   have o1:=z5 false p1 (by have:(bO q).length=dl q:=rfl;simp at p2;omega)
   rw [p3,o5] at o1
   obtain⟨s,s1,s2,s3,s4⟩:=aEQ (bN y.natAbs) (bN r) (sW (by omega)) (by rw [dJ,dJ];omega) (by show dl _≤_;omega)
   rw [dJ,dJ] at s3
   have o2:=z5 false s2 (by rw [s1];show dl _≤_;omega)
   rw [s3,o5] at o2
   refine Ev.bind p4 (Ev.bind o1 (Ev.bind s4 (Ev.bind o2 ?_)))
   refine bI _ _ ?_ ?_
   ·by_cases hy0:y<0
    ·rw [if_pos (by simp [hx0,hy0])]
     refine((uniq (q+1) (y.natAbs-r) ?_ (by omega) (by omega)).1).symm▸(by omega)
     rw [show(y.natAbs:Int)=-y by omega,show(x.natAbs:Int)=-x by omega] at c1
     rw [Int.neg_mul] at c1;rw [Int.mul_add];omega
    ·rw [if_neg (by simp [hx0,hy0])]
     refine((uniq (-(q+1)) (y.natAbs-r) ?_ (by omega) (by omega)).1).symm▸(by omega)
     rw [show(y.natAbs:Int)=y by omega,show(x.natAbs:Int)=-x by omega] at c1
     rw [Int.mul_neg,Int.mul_add];omega
   ·by_cases hy0:y<0
    ·refine((uniq (q+1) (y.natAbs-r) ?_ (by omega) (by omega)).2).symm▸(by omega)
     rw [show(y.natAbs:Int)=-y by omega,show(x.natAbs:Int)=-x by omega] at c1
     rw [Int.neg_mul] at c1;rw [Int.mul_add];omega
    ·refine((uniq (-(q+1)) (y.natAbs-r) ?_ (by omega) (by omega)).2).symm▸(by omega)
     rw [show(y.natAbs:Int)=y by omega,show(x.natAbs:Int)=-x by omega] at c1
     rw [Int.mul_neg,Int.mul_add];omega
 ·have e2:decide (x<0)=false:=dF hx0
  simp only [e2,bM]
  refine bI q r ?_ ?_
  ·by_cases hy0:y<0
   ·rw [if_neg (by simp [hx0,hy0])]
    refine((uniq (-q) r ?_ (by omega) (by omega)).1).symm
    rw [show(y.natAbs:Int)=-y by omega,show(x.natAbs:Int)=x by omega] at c1
    rw [Int.neg_mul] at c1;rw [Int.mul_neg];omega
   ·rw [if_pos (by simp [hx0,hy0])]
    refine((uniq q r ?_ (by omega) (by omega)).1).symm
    rw [show(y.natAbs:Int)=y by omega,show(x.natAbs:Int)=x by omega] at c1
    omega
  ·by_cases hy0:y<0
   ·refine((uniq (-q) r ?_ (by omega) (by omega)).2).symm
    rw [show(y.natAbs:Int)=-y by omega,show(x.natAbs:Int)=x by omega] at c1
    rw [Int.neg_mul] at c1;rw [Int.mul_neg];omega
   ·refine((uniq q r ?_ (by omega) (by omega)).2).symm
    rw [show(y.natAbs:Int)=y by omega,show(x.natAbs:Int)=x by omega] at c1
    omega
theorem aPs (K:Nat):∀(n m k:Nat),n<k→lD K k (m:Int) (n:Int)=some ((Nat.gcd m n:Nat):Int):=by
 intro n
 induction n using Nat.strongRecOn with
 |_ n ih=>
  intro m k hk
  obtain⟨k',rfl,_⟩:=aY hk
  by_cases h:n=0
  ·subst h
   simp [lD]
  ·have e1:decide (0<(n:Int))=true:=dT (by omega)
   have e2:chr (m:Int) (n:Int)=some ((m%n:Nat):Int):=by rw [u5 (by omega) (by omega)];simp
   simp only [lD,e1,bS,e2,oB]
   have hlt:=Nat.mod_lt m (show 0<n by omega)
   rw [ih (m%n) hlt n k' (by omega)]
   congr 2
   rw [Nat.gcd_comm m n,Nat.gcd_rec n m,Nat.gcd_comm]
theorem aPq:∀(n m:Nat),dl m≤60000000000→dl n≤60000000000→∃r,xZ (fun K k=>jW K k (Z (m:Int)) (Z (n:Int))) r∧(r=.ret (Z (Nat.gcd m n:Nat))∨r=.go (Z (Nat.gcd m n:Nat))):=by
 intro n
 induction n using Nat.strongRecOn with
 |_ n ih=>
  intro m hm hn
  by_cases h:n=0
  ·subst h
   refine⟨.go (Z m),xZ.of 1 fun K k hk=>?_,.inr (by simp)⟩
   obtain⟨k',rfl,_⟩:=aY (n:=0) hk
   have e:decide (0<((Z ((0:Nat):Int)).d.length:Int))=false:=by rw [uM,show((0:Nat):Int).natAbs=0 from rfl,yE];rfl
   simp only [jW,e,bM]
  ·have hl:dl n≠0:=by rw [Ne,xP];exact h
   have e1:decide (0<((bO n).length:Int))=true:=dT (by show(0:Int)<dl n;omega)
   have hlt:=Nat.mod_lt m (show 0<n by omega)
   obtain⟨r,h1,h2⟩:=ih (m%n) hlt n hn (Nat.le_trans (aIk _ _) hm)
   have hg:Nat.gcd n (m%n)=Nat.gcd m n:=by rw [Nat.gcd_comm m n,Nat.gcd_rec n m,Nat.gcd_comm]
   rw [hg] at h2
   have hdiv:=aGb (m:=m) (n:=n) (by omega) hm
   have zd:∀t:Nat,(Z (t:Int)).d=bO t:=fun t=>by rw [Z_d];simp
   by_cases hs:dl m≤2∧dl n≤2
   ·refine⟨.ret (Z (Nat.gcd m n:Nat)),xZ.step ?_,.inl rfl⟩
    have b1:=aAN (n:=m) hs.1
    have b2:=aAN (n:=n) hs.2
    have hgl:Nat.gcd m n≤n:=Nat.gcd_le_right m (by omega)
    simp only [jW,e1,bS,zd,aCS (bN m),aCS (bN n),dJ,oB]
    rw [if_pos (show(bO m).length≤2 from hs.1),if_pos (show(bO n).length≤2 from hs.2)]
    simp only [bS]
    refine xZ.bind (x:=((Nat.gcd m n:Nat):Int)) (f:=fun K=>lD K K (m:Int) (n:Int)) ⟨n+1,fun K hK=>aPs K n m K (by omega)⟩ ?_
    simp only [wA,aOX (show Nat.gcd m n≤18446744073709551615 by omega),uV false (show Nat.gcd m n≤18446744073709551615 by omega),oB,o5]
    exact xZ.of 0 fun _ _ _=>rfl
   ·refine⟨r,xZ.step ?_,h2⟩
    simp only [jW,e1,bS,zd,aCS (bN m),aCS (bN n),dJ,oB]
    by_cases hs1:(bO m).length≤2
    ·have hs2:¬(bO n).length≤2:=fun e=>hs ⟨hs1,e⟩
     rw [if_pos hs1,if_neg hs2]
     simp only [bS,bM]
     exact xZ.bind hdiv h1
    ·rw [if_neg hs1]
     simp only [bM]
     exact xZ.bind hdiv h1
theorem aK5 {x y:Int} (hx:dl x.natAbs≤60000000000) (hy:dl y.natAbs≤60000000000):Ev (fun K=>vM K (Z x) (Z y)) (Z (Int.gcd x y:Nat)):=by
 unfold vM
 have h1:=z5 false (bN x.natAbs) (by show dl _≤_;omega)
 have h2:=z5 false (bN y.natAbs) (by show dl _≤_;omega)
 rw [dJ,o5,Int.toNat_natCast] at h1 h2
 simp only [Z_d]
 refine Ev.bind h1 (Ev.bind h2 ?_)
 obtain⟨r,h3,h4⟩:=aPq y.natAbs x.natAbs hx hy
 refine Ev.bind h3.ev ?_
 rcases h4 with rfl|rfl
 ·exact Ev.pure _
 ·exact Ev.pure _
end Go.Proofs.YtolfcbpgmfbgmaaGreat
set_option linter.unusedVariables false
namespace Go.Proofs.YtolfcbpgmfbgmaaGreat
theorem aFT (u:List Int):∀(n:Nat),n≤u.length→n≤9000000000000→∃m:Nat,m≤n∧(∀i,m≤i→i<n→u.getD i 0=0)∧(m=0∨u.getD (m-1) 0≠0)∧∀K k,n<k→fO K u k n=some (m:Int)
 |0,_,_=>⟨0,Nat.le_refl _,fun i _ h=>by omega,.inl rfl,fun K k hk=>by
   obtain⟨k',rfl,_⟩:=aY hk
   simp [fO]⟩
 |n+1,h,hL=>by
  have e1:aS (((n+1:Nat):Int)-1)=some (n:Int):=ckN (m:=0) (by omega) (by omega)
  have e2:decide (0<((n+1:Nat):Int))=true:=dT (by omega)
  have e0:max (n:Int) 0=(n:Int):=by omega
  have e3:=bZ (xs:=u) (i:=n) (by omega)
  by_cases h0:u.getD n 0=0
  ·obtain⟨m,h1,h2,h3,h4⟩:=aFT u n (by omega) (by omega)
   refine⟨m,by omega,fun i a b=>?_,h3,fun K k hk=>?_⟩
   ·by_cases e:i=n
    ·subst e;exact h0
    ·exact h2 i a (by omega)
   ·obtain⟨k',rfl,hk'⟩:=aY hk
    simp only [fO,e0,e1,e2,e3,qT h0,bS,oB]
    exact h4 K k' (by omega)
  ·refine⟨n+1,by omega,fun i a b=>by omega,.inr (by simpa using h0),fun K k hk=>?_⟩
   obtain⟨k',rfl,hk'⟩:=aY hk
   simp only [fO,e0,e1,e2,e3,qF h0,bS,bM,oB]
theorem jZ (neg:Bool) {u:List Int} (hd:lV u) (hL:u.length≤9000000000000):Ev (fun K=>bA K neg u) (mkG neg (vD u).toNat):=by
 obtain⟨m,h1,h2,h3,h4⟩:=aFT u u.length (Nat.le_refl _) hL
 obtain⟨h5,h6⟩:=aS8 hd h1 h2 h3
 have hn:=hd.nonneg
 refine⟨u.length+1,fun K hK=>?_⟩
 simp only [bA,h4 K K (by omega),oB,pR]
 unfold mkG
 by_cases h0:m=0
 ·rw [qT (by omega),bS,if_pos (by have:=h6.1 h0;omega)]
 ·rw [qF (by omega),bM,aId h1,oB,if_neg (by intro h;exact h0 (h6.2 (by omega))),h5]
theorem aQU {u:List Int} {x:Int} (h:u.length≤60000000000):oG u [x]=some (u++[x]):=xM (by simp;omega)
theorem lV.snoc {u:List Int} {x:Int} (h:lV u) (h0:0≤x) (h1:x<1000000000):lV (u++[x]):=fun i=>by
 rcases Nat.lt_trichotomy i u.length with h2|h2|h2
 ·rw [aJp h2];exact h i
 ·subst h2;rw [aHx];exact⟨h0,h1⟩
 ·rw [xB (by simp;omega)];omega
theorem aOL:∀(n:Nat) (neg:Bool) (u:List Int),n≤9223372036854775808→(neg=false→n≤9223372036854775807)→lV u→u.length+n≤30000000000000000000→u.length+dl n≤50→∃r,lV r∧r.length≤u.length+dl n∧vD r=vD u+n*PB u.length∧∀K k,n<k→dM K k u (if neg then -(n:Int) else n)=some r:=by
 intro n
 induction n using Nat.strongRecOn with
 |_ n ih=>
  intro neg u h1 h2 hu h3 h4
  by_cases h0:n=0
  ·subst h0
   refine⟨u,hu,by omega,by simp,fun K k hk=>?_⟩
   obtain⟨k',rfl,_⟩:=aY hk
   cases neg<;>simp [dM]
  ·have hdl:dl n=dl (n/1000000000)+1:=by unfold dl;rw [yN h0];rfl
   obtain⟨r,g1,g2,g3,g4⟩:=ih (n/1000000000) (by omega) neg (u++[((n%1000000000:Nat):Int)]) (by omega) (fun e=>by have:=h2 e;omega) (hu.snoc (by omega) (by omega)) (by simp;omega) (by simp;omega)
   have hul:(u++[((n%1000000000:Nat):Int)]).length=u.length+1:=by simp
   rw [hul] at g2 g3
   refine⟨r,g1,by omega,?_,fun K k hk=>?_⟩
   ·rw [g3]
    unfold vD
    rw [hul,aOe]
    simp only [PB]
    have:(n:Int)=(n%1000000000:Nat)+((n/1000000000:Nat):Int)*1000000000:=by omega
    rw [show(n:Int)*PB u.length=((n%1000000000:Nat)+((n/1000000000:Nat):Int)*1000000000)*PB u.length by rw [←this]]
    grind
   ·obtain⟨k',rfl,_⟩:=aY hk
    have a1:∀x:Int,oG u [x]=some (u++[x]):=fun x=>aQU (by omega)
    cases neg with
    |false=>
     have g4':=g4 K k' (by omega)
     simp only [Bool.false_eq_true,if_false] at g4' ⊢
     have:=h2 rfl
     have e1:((n:Int) != 0)=true:=nT (by omega)
     have e2:chr (n:Int) 1000000000=some ((n%1000000000:Nat):Int):=by rw [u5 (by omega) (by omega)];simp
     have e3:chq (n:Int) 1000000000=some ((n/1000000000:Nat):Int):=by rw [xV (by omega) (by omega) (by omega)];simp
     have e4:decide (((n%1000000000:Nat):Int)<0)=false:=dF (by omega)
     simp only [dM,e1,e2,e3,e4,a1,bS,bM,oB]
     exact g4'
    |true=>
     have g4':=g4 K k' (by omega)
     simp only [if_true] at g4' ⊢
     have e1:(-(n:Int) != 0)=true:=nT (by omega)
     have e2:chr (-(n:Int)) 1000000000=some (-((n%1000000000:Nat):Int)):=by
      unfold chr
      rw [if_neg (by omega),Int.neg_tmod,Int.tmod_eq_emod_of_nonneg (by omega)];simp
     have e3:chq (-(n:Int)) 1000000000=some (-((n/1000000000:Nat):Int)):=by
      unfold chq
      rw [if_neg (by omega),Int.neg_tdiv,Int.tdiv_eq_ediv_of_nonneg (by omega),show(n:Int)/1000000000=((n/1000000000:Nat):Int) by simp]
      exact vX (by omega)
     by_cases hz:n%1000000000=0
     ·have e4:decide (-((n%1000000000:Nat):Int)<0)=false:=dF (by omega)
      simp only [dM,e1,e2,e3,e4,a1,bS,bM,oB]
      rw [hz] at g4' ⊢
      exact g4'
     ·have e4:decide (-((n%1000000000:Nat):Int)<0)=true:=dT (by omega)
      have e5:aS (- -((n%1000000000:Nat):Int))=some ((n%1000000000:Nat):Int):=by rw [Int.neg_neg];exact vX (by omega)
      simp only [dM,e1,e2,e3,e4,e5,a1,bS,oB]
      exact g4'
theorem aB0 {n:Int} (h:-9223372036854775808≤n∧n≤9223372036854775807):Ev (fun K=>iO K n) (Z n):=by
 have hl:dl n.natAbs≤3:=aDt (by
  have:PB 3=1000000000000000000000000000:=by decide
  omega)
 obtain⟨r,h1,h2,h3,h4⟩:=aOL n.natAbs (decide (n<0)) [] (by omega) (by simp;omega) lV.nil (by simp;omega) (by simp;omega)
 have e:(if decide (n<0)=true then -(n.natAbs:Int) else(n.natAbs:Int))=n:=by
  by_cases h0:n<0
  ·rw [if_pos (by simpa using h0)];omega
  ·rw [if_neg (by simpa using h0)];omega
 rw [e] at h4
 have h5:=jZ (decide (n<0)) h1 (by simp at h2;omega)
 rw [h3,vD0] at h5
 simp only [List.length_nil,PB,Int.mul_one,Int.zero_add,Int.toNat_natCast] at h5
 rw [wT,e] at h5
 unfold iO
 refine Ev.bind (f:=fun K=>dM K K [] n) ⟨n.natAbs+1,fun K hK=>h4 K K (by omega)⟩ ?_
 simp only [tH]
 exact Ev.bind h5 (Ev.pure _)
theorem xU (u:List Int) (i:Nat):cP u (i:Int)=some (u.getD i 0):=by
 unfold cP
 by_cases h:i<u.length
 ·rw [dT (by omega),bS,bZ h,oB]
 ·rw [dF (by omega),bM,xB (by omega)]
theorem aRC {u:List Int} {x:Int} {i:Nat} (h:u.length=i):W (u++[x]) 0 (i+1)=W u 0 i+x*PB i:=by subst h;exact aOe
theorem aMn {a b:List Int} (ha:lV a) (hb:lV b) {M:Nat} (hL:a.length≤M) (hM:b.length≤M) (hMM:M≤50000000000):∀(t i:Nat) (out:List Int) (c:Int),M+1-i=t→i≤M+1→out.length=i→lV out→0≤c→c≤1→(i=M+1→c=0)→W out 0 i+c*PB i=W a 0 i+W b 0 i→
  ∃r,r.length≤M+1∧lV r∧vD r=vD a+vD b∧∀K k,t<k→bT K a b k out c (i:Int)=some r:=by
 intro t
 induction t with
 |zero=>
  intro i out c ht hi ho hD hc0 hc1 hc hI
  have hii:i=M+1:=by omega
  have:=hc hii
  subst this
  refine⟨out,by omega,hD,?_,fun K k hk=>?_⟩
  ·rw [aBG (u:=a) (by omega),aBG (u:=b) (by omega)] at hI
   unfold vD
   rw [ho];omega
  ·obtain⟨k',rfl,_⟩:=aY hk
   have e1:decide ((i:Int)<(a.length:Int))=false:=dF (by omega)
   have e2:decide ((i:Int)<(b.length:Int))=false:=dF (by omega)
   have e3:decide ((0:Int)<0)=false:=dF (by omega)
   simp only [bT,e1,e2,e3,bM]
 |succ t ih=>
  intro i out c ht hi ho hD hc0 hc1 hc hI
  have ha':=ha i
  have hb':=hb i
  have f1:aS (a.getD i 0+b.getD i 0)=some (a.getD i 0+b.getD i 0):=vX (by omega)
  have f2:aS (a.getD i 0+b.getD i 0+c)=some (a.getD i 0+b.getD i 0+c):=vX (by omega)
  have f3:chr (a.getD i 0+b.getD i 0+c) 1000000000=some ((a.getD i 0+b.getD i 0+c)%1000000000):=u5 (by omega) (by omega)
  have f4:chq (a.getD i 0+b.getD i 0+c) 1000000000=some ((a.getD i 0+b.getD i 0+c)/1000000000):=xV (by omega) (by omega) (by omega)
  have f5:aS ((i:Int)+1)=some ((i+1:Nat):Int):=ckN (m:=0) (by omega) (by omega)
  have f6:∀x:Int,oG out [x]=some (out++[x]):=fun x=>aQU (by omega)
  have go:(i=M→a.getD i 0=0∧b.getD i 0=0)→i≤M→∃r,r.length≤M+1∧lV r∧vD r=vD a+vD b∧∀K k,t<k→bT K a b k (out++[(a.getD i 0+b.getD i 0+c)%1000000000]) ((a.getD i 0+b.getD i 0+c)/1000000000) ((i+1:Nat):Int)=some r:=by
   intro hlast hile
   refine ih (i+1) _ _ (by omega) (by omega) (by simp;omega) (hD.snoc (by omega) (by omega)) (by omega) (by omega) (fun e=>?_) ?_
   ·have:=hlast (by omega);omega
   ·rw [aRC ho,dU,dU,Nat.zero_add]
    simp only [PB]
    have hd:(a.getD i 0+b.getD i 0+c)%1000000000+1000000000*((a.getD i 0+b.getD i 0+c)/1000000000)=a.getD i 0+b.getD i 0+c:=by omega
    grind
  by_cases h1:i<a.length
  ·obtain⟨r,g1,g2,g3,g4⟩:=go (fun e=>by omega) (by omega)
   refine⟨r,g1,g2,g3,fun K k hk=>?_⟩
   obtain⟨k',rfl,_⟩:=aY hk
   simp only [bT,dT (show(i:Int)<(a.length:Int) by omega),xU,f1,f2,f3,f4,f5,f6,bS,oB]
   exact g4 K k' (Nat.lt_of_succ_lt_succ hk)
  ·by_cases h2:i<b.length
   ·obtain⟨r,g1,g2,g3,g4⟩:=go (fun e=>by omega) (by omega)
    refine⟨r,g1,g2,g3,fun K k hk=>?_⟩
    obtain⟨k',rfl,_⟩:=aY hk
    simp only [bT,dF (show¬(i:Int)<(a.length:Int) by omega),dT (show(i:Int)<(b.length:Int) by omega),xU,f1,f2,f3,f4,f5,f6,bS,bM,oB]
    exact g4 K k' (Nat.lt_of_succ_lt_succ hk)
   ·by_cases h3:0<c
    ·obtain⟨r,g1,g2,g3,g4⟩:=go (fun e=>⟨xB (by omega),xB (by omega)⟩) (by
      rcases Nat.lt_or_ge (M) i with h|h
      ·have:=hc (by omega);omega
      ·exact h)
     refine⟨r,g1,g2,g3,fun K k hk=>?_⟩
     obtain⟨k',rfl,_⟩:=aY hk
     simp only [bT,dF (show¬(i:Int)<(a.length:Int) by omega),dF (show¬(i:Int)<(b.length:Int) by omega),dT h3,xU,f1,f2,f3,f4,f5,f6,bS,bM,oB]
     exact g4 K k' (Nat.lt_of_succ_lt_succ hk)
    ·refine⟨out,by omega,hD,?_,fun K k hk=>?_⟩
     ·rw [aBG (u:=a) (by omega),aBG (u:=b) (by omega)] at hI
      have:c=0:=by omega
      subst this
      unfold vD
      rw [ho];omega
     ·obtain⟨k',rfl,_⟩:=aY hk
      simp only [bT,dF (show¬(i:Int)<(a.length:Int) by omega),dF (show¬(i:Int)<(b.length:Int) by omega),dF h3,bM]
theorem aMM {a b:List Int} (ha:lV a) (hb:lV b) (hL:a.length≤50000000000) (hM:b.length≤50000000000):∃r,lV r∧r.length≤max a.length b.length+1∧vD r=vD a+vD b∧Ev (fun K=>rS K a b) r:=by
 obtain⟨r,h1,h2,h3,h4⟩:=aMn (M:=max a.length b.length) ha hb (by omega) (by omega) (by omega) _ 0 [] 0 rfl (by omega) rfl lV.nil (by omega) (by omega) (by omega) (by simp [W])
 refine⟨r,h2,h1,h3,⟨max a.length b.length+2,fun K hK=>?_⟩⟩
 have:=h4 K K (by omega)
 simp only [Int.natCast_zero] at this
 simp only [rS,this,oB,rE]
theorem aD1 {a b:List Int} (ha:lV a) (hb:lV b) (hbl:b.length≤a.length) (hv:vD b≤vD a) (hL:a.length≤50000000000):∀(t i:Nat) (out:List Int) (c:Int),i+t=a.length→out.length=i→lV out→0≤c→c≤1→W out 0 i-c*PB i=W a 0 i-W b 0 i→
  ∃r,r.length=a.length∧lV r∧vD r=vD a-vD b∧∀K k,t<k→dZ K a b k out c (i:Int)=some r
 |0,i,out,c,hi,ho,hD,hc0,hc1,hI=>by
  have:i=a.length:=by omega
  subst this
  refine⟨out,ho,hD,?_,fun K k hk=>?_⟩
  ·rw [aBG (u:=b) hbl] at hI
   have hlt:=hD.lt
   unfold vD at *
   rw [ho] at hlt ⊢
   have:c=0:=by
    rcases Int.lt_or_le 0 c with h|h
    ·have:c=1:=by omega
     subst this
     omega
    ·omega
   subst this
   omega
  ·obtain⟨k',rfl,_⟩:=aY hk
   simp [dZ]
 |t+1,i,out,c,hi,ho,hD,hc0,hc1,hI=>by
  have ha':=ha i
  have hb':=hb i
  have e1:decide ((i:Int)<(a.length:Int))=true:=dT (by omega)
  have e2:=bZ (xs:=a) (i:=i) (by omega)
  have f1:aS (a.getD i 0-b.getD i 0)=some (a.getD i 0-b.getD i 0):=vX (by omega)
  have f2:aS (a.getD i 0-b.getD i 0-c)=some (a.getD i 0-b.getD i 0-c):=vX (by omega)
  have f5:aS ((i:Int)+1)=some ((i+1:Nat):Int):=ckN (m:=0) (by omega) (by omega)
  have f6:∀x:Int,oG out [x]=some (out++[x]):=fun x=>aQU (by omega)
  by_cases hn:a.getD i 0-b.getD i 0-c<0
  ·have f3:aS (a.getD i 0-b.getD i 0-c+1000000000)=some (a.getD i 0-b.getD i 0-c+1000000000):=vX (by omega)
   obtain⟨r,g1,g2,g3,g4⟩:=aD1 ha hb hbl hv hL t (i+1) (out++[a.getD i 0-b.getD i 0-c+1000000000]) 1 (by omega) (by simp;omega) (hD.snoc (by omega) (by omega)) (by omega) (by omega) (by
    rw [aRC ho,dU,dU,Nat.zero_add]
    simp only [PB]
    grind)
   refine⟨r,g1,g2,g3,fun K k hk=>?_⟩
   obtain⟨k',rfl,_⟩:=aY hk
   simp only [dZ,e1,e2,xU,f1,f2,f3,f5,f6,dT hn,bS,oB]
   exact g4 K k' (by omega)
  ·obtain⟨r,g1,g2,g3,g4⟩:=aD1 ha hb hbl hv hL t (i+1) (out++[a.getD i 0-b.getD i 0-c]) 0 (by omega) (by simp;omega) (hD.snoc (by omega) (by omega)) (by omega) (by omega) (by
    rw [aRC ho,dU,dU,Nat.zero_add]
    simp only [PB]
    grind)
   refine⟨r,g1,g2,g3,fun K k hk=>?_⟩
   obtain⟨k',rfl,_⟩:=aY hk
   simp only [dZ,e1,e2,xU,f1,f2,f5,f6,dF hn,bS,bM,oB]
   exact g4 K k' (by omega)
theorem aBV {a b:List Int} (ha:lV a) (hb:lV b) (hbl:b.length≤a.length) (hv:vD b≤vD a) (hL:a.length≤50000000000):
  ∃r,r.length=a.length∧lV r∧vD r=vD a-vD b∧Ev (fun K=>fT K a b) r:=by
 obtain⟨r,g1,g2,g3,g4⟩:=aD1 ha hb hbl hv hL a.length 0 [] 0 (by omega) rfl lV.nil (by omega) (by omega) (by simp [W])
 refine⟨r,g1,g2,g3,⟨a.length+1,fun K hK=>?_⟩⟩
 have h:=g4 K K (by omega)
 simp only [Int.natCast_zero] at h
 simp only [fT,oB,h,pT]
theorem aEv {u v:List Int} (hu:lV u) (hv:lV v) (hl:u.length=v.length) (hL:u.length≤9000000000000):∀(j:Nat),j≤u.length→∀K k,j<k→
  cV K u v k ((j:Int)-1)=some (if W u 0 j<W v 0 j then .ret (-1) else if W v 0 j<W u 0 j then .ret 1 else .go ())
 |0,_,K,k,hk=>by
  obtain⟨k',rfl,_⟩:=aY hk
  simp [cV,W]
 |j+1,hj,K,k,hk=>by
  obtain⟨k',rfl,hk'⟩:=aY hk
  have e0:((j+1:Nat):Int)-1=(j:Int):=by omega
  have e1:decide (0≤(j:Int))=true:=dT (by omega)
  have e2:=bZ (xs:=u) (i:=j) (by omega)
  have e3:=bZ (xs:=v) (i:=j) (by omega)
  rw [e0]
  rcases Int.lt_trichotomy (u.getD j 0) (v.getD j 0) with h|h|h
  ·have:=aLx hu hv h
   simp only [cV,e1,e2,e3,dT h,bS,oB]
   rw [if_pos this]
  ·have e5:aS ((j:Int)-1)=some ((j:Int)-1):=vX (by omega)
   have ih:=aEv hu hv hl hL j (by omega) K k' (by omega)
   have c1:(W u 0 (j+1)<W v 0 (j+1))↔(W u 0 j<W v 0 j):=by rw [dU,dU,Nat.zero_add,h];omega
   have c2:(W v 0 (j+1)<W u 0 (j+1))↔(W v 0 j<W u 0 j):=by rw [dU,dU,Nat.zero_add,h];omega
   simp only [cV,e1,e2,e3,dF (show¬u.getD j 0<v.getD j 0 by omega),dF (show¬v.getD j 0<u.getD j 0 by omega),e5,bS,bM,oB,c1,c2]
   exact ih
  ·have:=aLx hv hu h
   simp only [cV,e1,e2,e3,dF (show¬u.getD j 0<v.getD j 0 by omega),dT h,bS,bM,oB]
   rw [if_neg (by omega),if_pos this]
theorem xG {u v:List Int} (hu:lV u) (hv:lV v) (tu:Top u) (tv:Top v) (hL:u.length≤9000000000000):Ev (fun K=>bU K u v) (xK (vD u) (vD v)):=by
 refine⟨u.length+1,fun K hK=>?_⟩
 unfold xK
 rcases Nat.lt_trichotomy u.length v.length with h|h|h
 ·have:=aHM hu hv tv h
  simp only [bU,dT (show(u.length:Int)<(v.length:Int) by omega),bS]
  rw [if_pos this]
 ·have e2:aS ((u.length:Int)-1)=some ((u.length:Int)-1):=vX (by omega)
  have e3:=aEv hu hv h hL u.length (Nat.le_refl _) K K (by omega)
  simp only [bU,dF (show¬(u.length:Int)<(v.length:Int) by omega),dF (show¬(v.length:Int)<(u.length:Int) by omega),e2,e3,bM,oB]
  unfold vD
  rw [←h]
  by_cases h1:W u 0 u.length<W v 0 u.length
  ·rw [if_pos h1,if_pos h1]
  ·rw [if_neg h1,if_neg h1]
   by_cases h2:W v 0 u.length<W u 0 u.length
   ·rw [if_pos h2,if_pos h2]
   ·rw [if_neg h2,if_neg h2];rfl
 ·have:=aHM hv hu tu h
  simp only [bU,dF (show¬(u.length:Int)<(v.length:Int) by omega),dT (show(v.length:Int)<(u.length:Int) by omega),bS,bM]
  rw [if_neg (by omega),if_pos this]
theorem aFO (x:Int) (hL:dl x.natAbs≤60000000000):Ev (fun K=>m5 K (Z x)) (Z (-x)):=by
 unfold m5
 have h:=jZ (!decide (x<0)) (bN x.natAbs) (by show dl _≤_;omega)
 rw [dJ,Int.toNat_natCast,wT] at h
 have e:(if(!decide (x<0))=true then -(x.natAbs:Int) else(x.natAbs:Int))=-x:=by
  by_cases h0:x<0
  ·rw [dT h0];simp;omega
  ·rw [dF h0];simp;omega
 rw [e] at h
 exact Ev.bind h (Ev.pure _)
theorem aJW {x y:Int} (hx:dl x.natAbs≤40000000000) (hy:dl y.natAbs≤40000000000):Ev (fun K=>pX K (Z x) (Z y)) (Z (x+y)):=by
 have dx:=bN x.natAbs
 have dy:=bN y.natAbs
 have vx:=dJ x.natAbs
 have vy:=dJ y.natAbs
 have tx:=pL x.natAbs
 have ty:=pL y.natAbs
 have lx:(bO x.natAbs).length≤40000000000:=hx
 have ly:(bO y.natAbs).length≤40000000000:=hy
 unfold pX
 simp only [Z_d,uA]
 by_cases hs:(decide (x<0)==decide (y<0))=true
 ·simp only [hs,bS]
  obtain⟨r,h1,h2,h3,h4⟩:=aMM dx dy (by omega) (by omega)
  have h5:=jZ (decide (x<0)) h1 (by omega)
  refine Ev.bind h4 (Ev.bind h5 ?_)
  rw [wT]
  have hs':(x<0)↔(y<0):=by simpa using hs
  have:(if decide (x<0)=true then -(((vD r).toNat:Nat):Int) else(((vD r).toNat:Nat):Int))=x+y:=by
   by_cases h:x<0
   ·rw [if_pos (by simpa using h)];omega
   ·rw [if_neg (by simpa using h)];omega
  rw [this]
  exact Ev.pure _
 ·simp only [Bool.not_eq_true] at hs
  simp only [hs,bM]
  have hs':¬((x<0)↔(y<0)):=by simpa using hs
  refine Ev.bind (xG dx dy tx ty (by omega)) ?_
  rw [vx,vy]
  unfold xK
  by_cases hlt:x.natAbs<y.natAbs
  ·have hle:(bO x.natAbs).length≤(bO y.natAbs).length:=sW (by omega)
   obtain⟨r,h1,h2,h3,h4⟩:=aBV dy dx hle (by omega) (by omega)
   have h5:=jZ (decide (y<0)) h2 (by omega)
   rw [if_pos (by omega)]
   refine Ev.congr (g:=fun K=>(fT K (bO y.natAbs) (bO x.natAbs)).bind fun v16=>(bA K (decide (y<0)) v16).bind fun v18=>some v18) ?_ (fun K=>rfl)
   refine Ev.bind h4 (Ev.bind h5 ?_)
   rw [wT]
   have:(if decide (y<0)=true then -(((vD r).toNat:Nat):Int) else(((vD r).toNat:Nat):Int))=x+y:=by
    by_cases h:y<0
    ·rw [if_pos (by simpa using h)];omega
    ·rw [if_neg (by simpa using h)];omega
   rw [this]
   exact Ev.pure _
  ·have hle:(bO y.natAbs).length≤(bO x.natAbs).length:=sW (by omega)
   obtain⟨r,h1,h2,h3,h4⟩:=aBV dx dy hle (by omega) (by omega)
   have h5:=jZ (decide (x<0)) h2 (by omega)
   have hc:decide ((if(x.natAbs:Int)<y.natAbs then(-1:Int) else if(y.natAbs:Int)<x.natAbs then 1 else 0)<0)=false:=by
    rw [if_neg (by omega)]
    split<;>rfl
   simp only [hc,bM]
   refine Ev.bind h4 (Ev.bind h5 ?_)
   rw [wT]
   have:(if decide (x<0)=true then -(((vD r).toNat:Nat):Int) else(((vD r).toNat:Nat):Int))=x+y:=by
    by_cases h:x<0
    ·rw [if_pos (by simpa using h)];omega
    ·rw [if_neg (by simpa using h)];omega
   rw [this]
   exact Ev.pure _
theorem aJU {o0:List Int} {x y:aE} {i:Nat} (ha:lV x.d) (hb:lV y.d) (hi:i<x.d.length) (hl:i+y.d.length≤o0.length) (hL:o0.length≤9000000000000):∀(t k:Nat) (out:List Int) (c:Int),k+t=y.d.length→aIa o0 y.d i (x.d.getD i 0) out c k→
  ∃out' c',aIa o0 y.d i (x.d.getD i 0) out' c' y.d.length∧∀K n,t<n→iB K x y (i:Int) n out c (k:Int)=some (out',c')
 |0,k,out,c,hk,hP=>by
  have:k=y.d.length:=by omega
  subst this
  refine⟨out,c,hP,fun K n hn=>?_⟩
  obtain⟨n',rfl,_⟩:=aY hn
  simp [iB]
 |t+1,k,out,c,hk,hP=>by
  have hf:=ha i
  obtain⟨g1,g2,g3,g4,g5,g6,g7⟩:=hP.step (by omega) hf.1 hf.2 hb
  have c0:=hP.c0
  have c1:=hP.c1
  have hlo:=hP.len
  have e0:=bZ (xs:=x.d) (i:=i) hi
  have e1:decide ((k:Int)<(y.d.length:Int))=true:=dT (by omega)
  have e2:=bZ (xs:=y.d) (i:=k) (by omega)
  have e3:aS ((k:Int)+1)=some ((k+1:Nat):Int):=ckN (m:=0) (by omega) (by omega)
  have e4:aS ((i:Int)+(k:Int))=some ((i+k:Nat):Int):=ckN (m:=0) (by omega) (by omega)
  have e5:=bZ (xs:=out) (i:=i+k) (by omega)
  have e6:aS (x.d.getD i 0*y.d.getD k 0)=some (x.d.getD i 0*y.d.getD k 0):=vX (by omega)
  have e7:aS (out.getD (i+k) 0+x.d.getD i 0*y.d.getD k 0)=some (out.getD (i+k) 0+x.d.getD i 0*y.d.getD k 0):=vX (by omega)
  have e8:aS (out.getD (i+k) 0+x.d.getD i 0*y.d.getD k 0+c)=some (out.getD (i+k) 0+x.d.getD i 0*y.d.getD k 0+c):=vX (by omega)
  have e9:chq (out.getD (i+k) 0+x.d.getD i 0*y.d.getD k 0+c) 1000000000=some ((out.getD (i+k) 0+x.d.getD i 0*y.d.getD k 0+c)/1000000000):=xV (by omega) (by omega) (by omega)
  have e10:chr (out.getD (i+k) 0+x.d.getD i 0*y.d.getD k 0+c) 1000000000=some ((out.getD (i+k) 0+x.d.getD i 0*y.d.getD k 0+c)%1000000000):=u5 (by omega) (by omega)
  have e12:∀z,qL out ((i+k:Nat):Int) z=some (out.set (i+k) z):=fun z=>vQ (by omega)
  obtain⟨o,d,h1,h2⟩:=aJU ha hb hi hl hL t (k+1) _ _ (by omega) g7
  refine⟨o,d,h1,fun K n hn=>?_⟩
  obtain⟨n',rfl,_⟩:=aY hn
  simp only [iB,e0,e1,e2,e3,e4,e5,e6,e7,e8,e9,e10,e12,bS,oB]
  exact h2 K n' (by omega)
theorem aI9 {x y:aE} (ha:lV x.d) (hb:lV y.d) (hL:x.d.length+y.d.length≤9000000000000):∀(t i:Nat) (out:List Int),i+t=x.d.length→aFa x.d y.d out i→
  ∃out',aFa x.d y.d out' x.d.length∧xZ (fun K k=>hU K x y k out (i:Int)) out'
 |0,i,out,hi,hP=>by
  have:i=x.d.length:=by omega
  subst this
  refine⟨out,hP,xZ.of 1 fun K n hn=>?_⟩
  obtain⟨n',rfl,_⟩:=aY (n:=0) hn
  simp [hU]
 |t+1,i,out,hi,hP=>by
  have hlo:=hP.len
  obtain⟨o,c,h1,h2⟩:=aJU ha hb (by omega) (by omega) (by omega) y.d.length 0 out 0 (by omega) hP.row
  have hlo2:=h1.len
  obtain⟨r,h3,h4⟩:=aI9 ha hb hL t (i+1) _ (by omega) (hP.next (by omega) h1)
  refine⟨r,h3,xZ.step ?_⟩
  have e1:decide ((i:Int)<(x.d.length:Int))=true:=dT (by omega)
  have e3:aS ((i:Int)+1)=some ((i+1:Nat):Int):=ckN (m:=0) (by omega) (by omega)
  have e4:aS ((i:Int)+(y.d.length:Int))=some ((i+y.d.length:Nat):Int):=ckN (m:=0) (by omega) (by omega)
  have e5:=bZ (xs:=o) (i:=i+y.d.length) (by omega)
  have e6:qL o ((i+y.d.length:Nat):Int) c=some (o.set (i+y.d.length) c):=vQ (by omega)
  simp only [hU,e1,bS]
  refine xZ.bind (x:=(o,c)) (f:=fun K=>iB K x y (i:Int) K out 0 0) ⟨y.d.length+1,fun K hK=>h2 K K (by omega)⟩ ?_
  simp only [r4,e3,e4,e5,e6,oB]
  exact h4
theorem zZ {x y:Int} (hL:dl x.natAbs+dl y.natAbs≤60000000000):Ev (fun K=>eW K (Z x) (Z y)) (Z (x*y)):=by
 have dx:=bN x.natAbs
 have dy:=bN y.natAbs
 have lx:(bO x.natAbs).length=dl x.natAbs:=rfl
 have ly:(bO y.natAbs).length=dl y.natAbs:=rfl
 obtain⟨r,h1,h2⟩:=aI9 (x:=Z x) (y:=Z y) dx dy (by rw [uM,uM];omega) (Z x).d.length 0 _ (by omega) (aFa.start _ _)
 have e1:aS (((Z x).d.length:Int)+((Z y).d.length:Int))=some (((Z x).d.length+(Z y).d.length:Nat):Int):=ckN (m:=0) (by omega) (by rw [uM,uM];omega)
 have e2:mkL (((Z x).d.length+(Z y).d.length:Nat):Int) (0:Int)=some (List.replicate ((Z x).d.length+(Z y).d.length) 0):=aBM (by rw [uM,uM];omega)
 unfold eW
 simp only [e1,e2,oB]
 refine Ev.bind h2.ev ?_
 have h3:=jZ ((Z x).neg != (Z y).neg) h1.ok (by rw [h1.len,uM,uM];omega)
 unfold sD
 refine Ev.bind h3 ?_
 have hv:vD r=x.natAbs*y.natAbs:=by
  have:=h1.val
  rw [←h1.len] at this
  have vx:=dJ x.natAbs
  have vy:=dJ y.natAbs
  unfold vD at *
  rw [this]
  show W (bO x.natAbs) 0 (bO x.natAbs).length*W (bO y.natAbs) 0 (bO y.natAbs).length=_
  rw [vx,vy]
 rw [wT,uA,uA,hv]
 have:(if(decide (x<0) != decide (y<0))=true then -((((x.natAbs:Int)*y.natAbs).toNat:Nat):Int) else((((x.natAbs:Int)*y.natAbs).toNat:Nat):Int))=x*y:=by
  have h0:0≤(x.natAbs:Int)*y.natAbs:=Int.mul_nonneg (by omega) (by omega)
  rw [Int.toNat_of_nonneg h0]
  exact aID x y
 rw [this]
 exact Ev.pure _
end Go.Proofs.YtolfcbpgmfbgmaaGreat
set_option linter.unusedVariables false
namespace Go.Proofs.YtolfcbpgmfbgmaaGreat
theorem aCT {u:List Int} (hu:lV u) (h:u.length≤2):gO u=some (vD u):=by
 have h0:=hu 0
 have h1:=hu 1
 have d0:=xU u 0
 have d1:=xU u 1
 simp only [Int.natCast_zero,Int.natCast_one] at d0 d1
 have f1:aS (u.getD 1 0*1000000000)=some (u.getD 1 0*1000000000):=vX (by omega)
 have f2:aS (u.getD 1 0*1000000000+u.getD 0 0)=some (u.getD 1 0*1000000000+u.getD 0 0):=vX (by omega)
 simp only [gO,d0,d1,f1,f2,oB]
 have:vD u=W u 0 2:=(aBG h).symm
 rw [this,W2,Nat.zero_add]
 congr 1;omega
theorem aGU (n:Nat):(Z (n:Int)).d=bO n:=by rw [Z_d];simp
theorem aGj (n k:Nat) (hk:k≤999999999) (hL:dl n≤40000000000):Ev (fun K=>jM K (bO n) (k:Int)) (bO (n*k)):=by
 unfold jM
 have h1:=jZ false (bN n) (by show dl _≤_;omega)
 rw [dJ,Int.toNat_natCast,o5] at h1
 refine Ev.bind h1 (Ev.bind (aB0 (n:=(k:Int)) (by omega)) ?_)
 have hk2:dl k≤1:=aDt (by
  have:PB 1=1000000000:=by decide
  omega)
 refine Ev.bind (zZ (x:=(n:Int)) (y:=(k:Int)) (by simp;omega)) ?_
 have:(Z ((n:Int)*k)).d=bO (n*k):=by rw [←Int.natCast_mul,aGU]
 rw [this]
 exact Ev.pure _
theorem aRy (a b:Int):decide (xK a b≤0)=decide (a≤b):=by
 unfold xK
 by_cases h:a<b
 ·rw [if_pos h,dT (by omega),dT (by omega)]
 ·rw [if_neg h]
  by_cases h2:b<a
  ·rw [if_pos h2,dF (by omega),dF (by omega)]
  ·rw [if_neg h2,dT (by omega),dT (by omega)]
theorem aQQ (a b:Int):decide (xK a b<0)=decide (a<b):=by
 unfold xK
 by_cases h:a<b
 ·rw [if_pos h,dT (by omega),dT h]
 ·rw [if_neg h,dF h]
  by_cases h2:b<a
  ·rw [if_pos h2];rfl
  ·rw [if_neg h2];rfl
theorem aEF {n R:Nat} (hn:0<n) (hL:dl n≤40000000000) (hR:dl R≤90000000000):∀(t lo hi:Nat),hi-lo≤t→lo≤hi→hi≤999999999→lo*n≤R→R<(hi+1)*n→xZ (fun K k=>bL K (bO n) (Z (R:Int)) k (lo:Int) (hi:Int)) ((R/n:Nat):Int):=by
 intro t
 induction t with
 |zero=>
  intro lo hi ht hle hhi h1 h2
  have:lo=hi:=by omega
  subst this
  refine xZ.of 1 fun K k hk=>?_
  obtain⟨k',rfl,_⟩:=aY (n:=0) hk
  have:R/n=lo:=Nat.div_eq_of_lt_le h1 h2
  simp only [bL,dF (show¬(lo:Int)<(lo:Int) by omega),bM,this]
 |succ t ih=>
  intro lo hi ht hle hhi h1 h2
  by_cases hlt:lo<hi
  ·refine xZ.step ?_
   have e1:aS ((lo:Int)+(hi:Int))=some ((lo+hi:Nat):Int):=ckN (m:=0) (by omega) (by omega)
   have e2:aS (((lo+hi:Nat):Int)+1)=some ((lo+hi+1:Nat):Int):=ckN (m:=0) (by omega) (by omega)
   have e3:chq ((lo+hi+1:Nat):Int) 2=some (((lo+hi+1)/2:Nat):Int):=by rw [xV (by omega) (by omega) (by omega)];congr 1
   obtain⟨mid,hm⟩:∃m,(lo+hi+1)/2=m:=⟨_,rfl⟩
   rw [hm] at e3
   have hm1:lo<mid:=by omega
   have hm2:mid≤hi:=by omega
   simp only [bL,dT (show(lo:Int)<(hi:Int) by omega),bS,e1,e2,e3,oB]
   refine xZ.bind (aGj n mid (by omega) hL) ?_
   have hdm:dl (n*mid)≤9000000000000:=by
    have:=aEZ n mid
    have:dl mid≤1:=aDt (by
     have:PB 1=1000000000:=by decide
     omega)
    omega
   rw [aGU]
   refine xZ.bind (xG (bN _) (bN _) (pL _) (pL _) hdm) ?_
   rw [dJ,dJ,aRy]
   by_cases hc:n*mid≤R
   ·have e4:decide (((n*mid:Nat):Int)≤(R:Int))=true:=dT (by omega)
    simp only [e4,bS]
    exact ih mid hi (by omega) hm2 hhi (by rw [Nat.mul_comm];exact hc) h2
   ·have e4:decide (((n*mid:Nat):Int)≤(R:Int))=false:=dF (by omega)
    have e5:aS ((mid:Int)-1)=some ((mid-1:Nat):Int):=ckN (m:=0) (by omega) (by omega)
    simp only [e4,bM,e5,oB]
    refine ih lo (mid-1) (by omega) (by omega) (by omega) h1 ?_
    rw [show mid-1+1=mid by omega,Nat.mul_comm]
    omega
  ·have:lo=hi:=by omega
   subst this
   refine xZ.of 1 fun K k hk=>?_
   obtain⟨k',rfl,_⟩:=aY (n:=0) hk
   have:R/n=lo:=Nat.div_eq_of_lt_le h1 h2
   simp only [bL,dF (show¬(lo:Int)<(lo:Int) by omega),bM,this]
theorem aEx {a:List Int} {n:Nat} (ha:lV a) (hn:0<n) (hL:dl n≤40000000000) (hM:a.length≤40000000000):∀(j:Nat) (q:List Int) (r:Nat),j≤a.length→q.length=a.length→Dr q j (a.length-j)→r<n→W a j (a.length-j)=n*W q j (a.length-j)+r→
  ∃q' r',q'.length=a.length∧lV q'∧r'<n∧vD a=n*vD q'+(r':Nat)∧xZ (fun K k=>bG K a (bO n) k q (bO r) ((j:Int)-1)) (q',bO r')
 |0,q,r,hj,hq,hD,hr,hI=>by
  refine⟨q,r,hq,Dr.ok (by rw [hq];simpa using hD),hr,?_,xZ.of 1 fun K k hk=>?_⟩
  ·simp only [Nat.sub_zero] at hI
   unfold vD
   rw [hq];exact hI
  ·obtain⟨k',rfl,_⟩:=aY (n:=0) hk
   simp [bG]
 |j+1,q,r,hj,hq,hD,hr,hI=>by
  have ha':=ha j
  have e0:((j+1:Nat):Int)-1=(j:Int):=by omega
  have e1:decide (0≤(j:Int))=true:=dT (by omega)
  have e2:=bZ (xs:=a) (i:=j) (by omega)
  have e3:aS ((j:Int)-1)=some ((j:Int)-1):=vX (by omega)
  have e4:=bZ (xs:=q) (i:=j) (by omega)
  have e5:∀v,qL q (j:Int) v=some (q.set j v):=fun v=>vQ (by omega)
  have hrl:dl r≤dl n:=sW (by omega)
  have hrl':(bO r).length=dl r:=rfl
  have e6:oG [a.getD j 0] (bO r)=some (a.getD j 0::bO r):=xM (by simp;omega)
  obtain⟨R,hR⟩:∃R:Nat,(R:Int)=a.getD j 0+1000000000*r:=⟨(a.getD j 0+1000000000*r).toNat,by omega⟩
  have hd:lV (a.getD j 0::bO r):=(bN r).cons ha'.1 ha'.2
  have hv:vD (a.getD j 0::bO r)=R:=by
   rw [hR]
   have:vD (a.getD j 0::bO r)=a.getD j 0+1000000000*vD (bO r):=aKz _ _
   rw [this,dJ]
  have h1:=jZ false hd (by simp;omega)
  rw [hv,Int.toNat_natCast,o5] at h1
  have hRn:R<1000000000*n:=by
   have:(R:Int)<1000000000*n:=by omega
   omega
  have hRl:dl R≤dl n+1:=aDt (by
   have:=aFI n
   simp only [PB]
   omega)
  have hq1:R/n<1000000000:=Nat.div_lt_of_lt_mul (by rw [Nat.mul_comm];exact hRn)
  have hnm:=Nat.div_add_mod R n
  have hml:=Nat.mod_lt R hn
  have hdig:Ev (fun K=>(bif decide (R<n) then bL K (bO n) (Z (R:Int)) K 0 0 else bL K (bO n) (Z (R:Int)) K 0 999999999)) ((R/n:Nat):Int):=by
   by_cases hlt:R<n
   ·rw [dT hlt];simp only [bS]
    exact(aEF hn hL (by omega) 0 0 0 (by omega) (by omega) (by omega) (by omega) (by omega)).ev
   ·rw [dF hlt];simp only [bM]
    exact(aEF hn hL (by omega) 999999999 0 999999999 (by omega) (by omega) (by omega) (by omega) (by omega)).ev
  have h2:=aGj n (R/n) (by omega) hL
  have hle:n*(R/n)≤R:=by omega
  obtain⟨s,s1,s2,s3,s4⟩:=aBV (bN R) (bN (n*(R/n))) (sW hle) (by rw [dJ,dJ];omega) (by show dl R≤_;omega)
  rw [dJ,dJ] at s3
  have h3:=jZ false s2 (by rw [s1];show dl R≤_;omega)
  have hs:(vD s).toNat=R%n:=by omega
  rw [hs,o5] at h3
  have es:a.length-j=(a.length-(j+1))+1:=by omega
  obtain⟨q',r',g1,g2,g3,g4,g5⟩:=aEx ha hn hL hM j (q.set j ((R/n:Nat):Int)) (R%n) (by omega) (by simpa using hq)
   (fun i hi=>by
    by_cases e:i=0
    ·subst e;rw [Nat.add_zero,eA (by omega)];exact⟨Int.natCast_nonneg _,Int.ofNat_lt.2 hq1⟩
    ·rw [fP (by omega)]
     have:=hD (i-1) (by omega)
     rwa [show j+1+(i-1)=j+i by omega] at this) hml (by
    rw [es,aDJ,aDJ,eA (by omega),aAg (.inl (by omega)),hI]
    have:(R:Int)=n*(R/n:Nat)+(R%n:Nat):=by rw [←Int.natCast_mul,←Int.natCast_add,hnm]
    grind)
  refine⟨q',r',g1,g2,g3,g4,xZ.step ?_⟩
  rw [e0]
  simp only [bG,e1,e2,e6,bS,oB]
  refine xZ.bind h1 ?_
  rw [aGU]
  refine xZ.bind (xG (bN _) (bN _) (pL _) (pL _) (by show dl R≤_;omega)) ?_
  rw [dJ,dJ,aQQ]
  have bI:xZ (fun K k=>iT K (bO n) q (j:Int) (Z (R:Int)) (bG K a (bO n) k) ((R/n:Nat):Int)) (q',bO r'):=by
   simp only [iT]
   refine xZ.bind h2 ?_
   rw [aGU]
   refine xZ.bind s4 (xZ.bind h3 ?_)
   simp only [e3,e4,e5,oB,aGU]
   exact g5
  by_cases hlt:R<n
  ·have c1:decide ((R:Int)<(n:Int))=true:=dT (by omega)
   rw [dT hlt] at hdig
   simp only [bS] at hdig
   simp only [c1,bS,f0]
   exact xZ.bind hdig bI
  ·have c1:decide ((R:Int)<(n:Int))=false:=dF (by omega)
   rw [dF hlt] at hdig
   simp only [bM] at hdig
   simp only [c1,bM,f0]
   exact xZ.bind hdig bI
theorem aGy (K:Nat) (b:List Int) (x:aE):∀(k:Nat) (lo hi:Int),fF K b x k lo hi=bL K b x k lo hi
 |0,_,_=>rfl
 |k+1,lo,hi=>by simp only [fF,bL,aGy K b x k]
theorem aGd (K:Nat) (a b:List Int):∀(k:Nat) (q r:List Int) (j:Int),bY K a b k q r j=bG K a b k q r j
 |0,_,_,_=>rfl
 |k+1,q,r,j=>by
  have ih:bY K a b k=bG K a b k:=by funext q r j;exact aGd K a b k q r j
  simp only [bY,bG,kG,f0,nG,iT,aGy,ih]
theorem aIh {m n:Nat} (hn:0<n) (hL:dl n≤40000000000) (hM:dl m≤40000000000):∃q,q.length≤dl m+2∧lV q∧vD q=(m/n:Nat)∧Ev (fun K=>jO K (bO m) (bO n)) (q,bO (m%n)):=by
 have dm:=bN m;have dn:=bN n
 have vm:=dJ m;have vn:=dJ n
 have lm:(bO m).length=dl m:=rfl
 have ln:(bO n).length=dl n:=rfl
 obtain⟨q,r,g1,g2,g3,g4,g5⟩:=aEx (a:=bO m) dm hn hL (by omega) (bO m).length (List.replicate (bO m).length 0) 0 (Nat.le_refl _) (by simp) (aIq _ _ _) hn (by simp [W])
 rw [vm] at g4
 have hqn:=g2.nonneg
 have hmn:m=n*(vD q).toNat+r:=by
  have:(m:Int)=((n*(vD q).toNat+r:Nat):Int):=by rw [g4,Int.natCast_add,Int.natCast_mul,Int.toNat_of_nonneg hqn]
  omega
 have hq:(vD q).toNat=m/n:=by
  rw [hmn,Nat.mul_add_div hn,Nat.div_eq_of_lt g3,Nat.add_zero]
 have hr:r=m%n:=by rw [hmn,Nat.mul_add_mod,Nat.mod_eq_of_lt g3]
 subst hr
 rw [aAZ] at g5
 have e1:mkL ((bO m).length:Int) (0:Int)=some (List.replicate (bO m).length 0):=aBM (by omega)
 have e2:aS (((bO m).length:Int)-1)=some (((bO m).length:Int)-1):=vX (by omega)
 have core:Ev (fun K=>(mkL ((bO m).length:Int) (0:Int)).bind fun x23=>(aS (((bO m).length:Int)-1)).bind fun v28=>(bG K (bO m) (bO n) K x23 [] v28).bind fun(x46,x52)=>kS K x46 x52) (q,bO (m%n)):=by
  simp only [e1,e2,oB]
  refine Ev.bind g5.ev ?_
  simp only [kS]
  exact Ev.pure _
 by_cases h1:(bO m).length≤2
 ·by_cases h2:(bO n).length≤2
  ·have b1:=aAN h1
   have b2:=aAN h2
   have hd:=Nat.div_le_self m n
   have hm:=Nat.mod_le m n
   refine⟨bO (m/n),by have:=aKC m n;show dl _≤_;omega,bN _,dJ _,?_⟩
   have c1:chq (m:Int) (n:Int)=some ((m/n:Nat):Int):=by rw [xV (by omega) (by omega) (by omega)];simp
   have c2:chr (m:Int) (n:Int)=some ((m%n:Nat):Int):=by rw [u5 (by omega) (by omega)];simp
   unfold jO
   simp only [dT (show((bO m).length:Int)≤2 by omega),dT (show((bO n).length:Int)≤2 by omega),bS,aCT dm h1,aCT dn h2,vm,vn,c1,c2,oB]
   refine Ev.bind (aB0 (by omega)) (Ev.bind (aB0 (by omega)) ?_)
   rw [aGU,aGU]
   exact Ev.pure _
  ·refine⟨q,by omega,g2,by omega,?_⟩
   unfold jO
   simp only [dT (show((bO m).length:Int)≤2 by omega),dF (show¬((bO n).length:Int)≤2 by omega),bS,bM]
   exact core
 ·refine⟨q,by omega,g2,by omega,?_⟩
  unfold jO
  simp only [dF (show¬((bO m).length:Int)≤2 by omega),bM,aGd]
  exact core
theorem aE7 {x y a b:Int} (hy:y≠0) (h1:x=y*a+b) (h2:0≤b) (h3:b<y.natAbs):x/y=a∧x%y=b:=by
 have hm:x%y=b:=by
  rw [h1,Int.add_comm,Int.add_mul_emod_self_left]
  by_cases hy0:y<0
  ·have:b%y=b% -y:=by rw [Int.emod_neg]
   rw [this,Int.emod_eq_of_lt h2 (by omega)]
  ·exact Int.emod_eq_of_lt h2 (by omega)
 refine⟨?_,hm⟩
 have h4:=Int.mul_ediv_add_emod x y
 exact Int.eq_of_mul_eq_mul_left hy (by omega)
theorem aFY {x y:Int} (hy:y≠0) (hx:dl x.natAbs≤30000000000) (hy2:dl y.natAbs≤30000000000):Ev (fun K=>k8 K (Z x) (Z y)) (Z (x/y),Z (x%y)):=by
 have e1:(((bO y.natAbs).length:Int)==0)=false:=qF (by
  show(dl y.natAbs:Int)≠0
  have:dl y.natAbs≠0:=by rw [Ne,xP];omega
  omega)
 obtain⟨q,q1,q2,q3,q4⟩:=aIh (m:=x.natAbs) (n:=y.natAbs) (by omega) (by omega) (by omega)
 have hdm:=aKC x.natAbs y.natAbs
 have hmm:=aIk x.natAbs y.natAbs
 have hnd:=Nat.div_add_mod x.natAbs y.natAbs
 have hml:=Nat.mod_lt x.natAbs (show 0<y.natAbs by omega)
 have hln:(bO (x.natAbs%y.natAbs)).length=dl (x.natAbs%y.natAbs):=rfl
 have o1:=jZ (decide (x<0) != decide (y<0)) q2 (by omega)
 have o2:=jZ false (bN (x.natAbs%y.natAbs)) (by omega)
 rw [q3,Int.toNat_natCast,wT] at o1
 rw [dJ,Int.toNat_natCast,o5] at o2
 unfold k8
 simp only [Z_d,uA,e1,bM]
 refine Ev.bind q4 (Ev.bind o1 (Ev.bind o2 ?_))
 have c1:(x.natAbs:Int)=(y.natAbs:Int)*((x.natAbs/y.natAbs:Nat):Int)+((x.natAbs%y.natAbs:Nat):Int):=by
  rw [←Int.natCast_mul,←Int.natCast_add,hnd]
 generalize x.natAbs/y.natAbs=Q at *
 generalize x.natAbs%y.natAbs=R at *
 by_cases hx0:x<0
 ·have e2:decide (x<0)=true:=dT hx0
  by_cases hR:R=0
  ·subst hR
   have e3:decide (0<((Z ((0:Nat):Int)).d.length:Int))=false:=by rw [Z_d,show((0:Nat):Int).natAbs=0 from rfl,aAZ];rfl
   simp only [e2,e3,bS,bM]
   by_cases hy0:y<0
   ·rw [dT hy0]
    rw [show(y.natAbs:Int)=-y by omega,show(x.natAbs:Int)=-x by omega,Int.neg_mul] at c1
    obtain⟨u1,u2⟩:=aE7 (x:=x) (y:=y) (a:=Q) (b:=0) hy (by omega) (by omega) (by omega)
    rw [u1,u2]
    exact Ev.pure _
   ·rw [dF hy0]
    rw [show(y.natAbs:Int)=y by omega,show(x.natAbs:Int)=-x by omega] at c1
    obtain⟨u1,u2⟩:=aE7 (x:=x) (y:=y) (a:=-Q) (b:=0) hy (by rw [Int.mul_neg];omega) (by omega) (by omega)
    rw [u1,u2]
    exact Ev.pure _
  ·have hrl:dl R≠0:=by rw [Ne,xP];exact hR
   have e3:decide (0<((Z (R:Int)).d.length:Int))=true:=dT (by rw [uM];simp only [Int.natAbs_natCast];omega)
   simp only [e2,e3,bS]
   have o3:=jZ (true != decide (y<0)) (u:=[1]) (lV.nil.cons (by omega) (by omega)) (by simp)
   rw [vD1,show(1:Int).toNat=1 from rfl,wT] at o3
   obtain⟨s,s1,s2,s3,s4⟩:=aBV (bN y.natAbs) (bN R) (sW (by omega)) (by rw [dJ,dJ];omega) (by show dl _≤_;omega)
   rw [dJ,dJ] at s3
   have o4:=jZ false s2 (by rw [s1];show dl _≤_;omega)
   rw [s3,o5] at o4
   refine Ev.bind o3 ?_
   have hsz:∀b:Bool,dl (if b=true then -(Q:Int) else(Q:Int)).natAbs≤40000000000:=fun b=>by
    cases b<;>simp<;>omega
   have hsz1:∀b:Bool,dl (if b=true then -((1:Nat):Int) else((1:Nat):Int)).natAbs≤40000000000:=fun b=>by
    have:dl 1≤1:=aDt (by decide)
    cases b<;>simp<;>omega
   refine Ev.bind (aJW (hsz _) (hsz1 _)) ?_
   rw [aGU]
   refine Ev.bind s4 (Ev.bind o4 ?_)
   by_cases hy0:y<0
   ·rw [dT hy0]
    rw [show(y.natAbs:Int)=-y by omega,show(x.natAbs:Int)=-x by omega,Int.neg_mul] at c1
    obtain⟨u1,u2⟩:=aE7 (x:=x) (y:=y) (a:=Q+1) (b:=y.natAbs-R) hy (by rw [Int.mul_add];omega) (by omega) (by omega)
    rw [u1,u2]
    have:(((y.natAbs:Int)-R).toNat:Int)=y.natAbs-R:=by omega
    rw [this]
    exact Ev.pure _
   ·rw [dF hy0]
    rw [show(y.natAbs:Int)=y by omega,show(x.natAbs:Int)=-x by omega] at c1
    obtain⟨u1,u2⟩:=aE7 (x:=x) (y:=y) (a:=-(Q+1)) (b:=y.natAbs-R) hy (by rw [Int.mul_neg,Int.mul_add];omega) (by omega) (by omega)
    rw [u1,u2]
    have:(((y.natAbs:Int)-R).toNat:Int)=y.natAbs-R:=by omega
    rw [this,Int.neg_add]
    exact Ev.pure _
 ·have e2:decide (x<0)=false:=dF hx0
  simp only [e2,bM]
  by_cases hy0:y<0
  ·rw [dT hy0]
   rw [show(y.natAbs:Int)=-y by omega,show(x.natAbs:Int)=x by omega,Int.neg_mul] at c1
   obtain⟨u1,u2⟩:=aE7 (x:=x) (y:=y) (a:=-Q) (b:=R) hy (by rw [Int.mul_neg];omega) (by omega) (by omega)
   rw [u1,u2]
   exact Ev.pure _
  ·rw [dF hy0]
   rw [show(y.natAbs:Int)=y by omega,show(x.natAbs:Int)=x by omega] at c1
   obtain⟨u1,u2⟩:=aE7 (x:=x) (y:=y) (a:=Q) (b:=R) hy (by omega) (by omega) (by omega)
   rw [u1,u2]
   exact Ev.pure _
theorem aNA (K:Nat):∀(n m k:Nat),n<k→g8 K k (m:Int) (n:Int)=some ((Nat.gcd m n:Nat):Int):=by
 intro n
 induction n using Nat.strongRecOn with
 |_ n ih=>
  intro m k hk
  obtain⟨k',rfl,_⟩:=aY hk
  by_cases h:n=0
  ·subst h
   simp [g8]
  ·have e1:decide (0<(n:Int))=true:=dT (by omega)
   have e2:chr (m:Int) (n:Int)=some ((m%n:Nat):Int):=by rw [u5 (by omega) (by omega)];simp
   simp only [g8,e1,bS,e2,oB]
   have hlt:=Nat.mod_lt m (show 0<n by omega)
   rw [ih (m%n) hlt n k' (by omega)]
   congr 2
   rw [Nat.gcd_comm m n,Nat.gcd_rec n m,Nat.gcd_comm]
theorem aOE:∀(n m:Nat),dl m≤30000000000→dl n≤30000000000→∃r,xZ (fun K k=>fK K k (Z (n:Int)) (Z (m:Int))) r∧(r=.ret (Z (Nat.gcd m n:Nat))∨r=.go (Z (Nat.gcd m n:Nat))):=by
 intro n
 induction n using Nat.strongRecOn with
 |_ n ih=>
  intro m hm hn
  by_cases h:n=0
  ·subst h
   refine⟨.go (Z m),xZ.of 1 fun K k hk=>?_,.inr (by simp)⟩
   obtain⟨k',rfl,_⟩:=aY (n:=0) hk
   have e:decide (0<((Z ((0:Nat):Int)).d.length:Int))=false:=by rw [uM,show((0:Nat):Int).natAbs=0 from rfl,yE];rfl
   simp only [fK,e,bM]
  ·have e1:decide (0<((bO n).length:Int))=true:=dT (by
    show(0:Int)<dl n
    have hl:dl n≠0:=by rw [Ne,xP];exact h
    omega)
   have hlt:=Nat.mod_lt m (show 0<n by omega)
   obtain⟨r,h1,h2⟩:=ih (m%n) hlt n hn (Nat.le_trans (aIk _ _) hm)
   have hg:Nat.gcd n (m%n)=Nat.gcd m n:=by rw [Nat.gcd_comm m n,Nat.gcd_rec n m,Nat.gcd_comm]
   rw [hg] at h2
   have hdiv:=aFY (x:=(m:Int)) (y:=(n:Int)) (by omega) (by simpa using hm) (by simpa using hn)
   rw [←Int.natCast_emod] at hdiv
   by_cases hs:dl m≤2∧dl n≤2
   ·refine⟨.ret (Z (Nat.gcd m n:Nat)),xZ.step ?_,.inl rfl⟩
    have b1:=aAN (n:=m) hs.1
    have b2:=aAN (n:=n) hs.2
    have hgl:Nat.gcd m n≤n:=Nat.gcd_le_right m (by omega)
    have f1:decide (((bO m).length:Int)≤2)=true:=dT (by have:(bO m).length=dl m:=rfl;omega)
    have f2:decide (((bO n).length:Int)≤2)=true:=dT (by have:(bO n).length=dl n:=rfl;omega)
    simp only [fK,e1,f1,f2,bS,aGU,aCT (bN m) hs.1,aCT (bN n) hs.2,dJ,oB]
    refine xZ.bind (x:=((Nat.gcd m n:Nat):Int)) (f:=fun K=>g8 K K (m:Int) (n:Int)) ⟨n+1,fun K hK=>aNA K n m K (by omega)⟩ ?_
    simp only [sA]
    exact xZ.bind (aB0 (by omega)) (xZ.of 0 fun _ _ _=>rfl)
   ·refine⟨r,xZ.step ?_,h2⟩
    simp only [fK,e1,bS,aGU]
    by_cases hs1:dl m≤2
    ·have f1:decide (((bO m).length:Int)≤2)=true:=dT (by have:(bO m).length=dl m:=rfl;omega)
     have f2:decide (((bO n).length:Int)≤2)=false:=dF (by have:(bO n).length=dl n:=rfl;omega)
     simp only [f1,f2,bS,bM]
     exact xZ.bind hdiv h1
    ·have f1:decide (((bO m).length:Int)≤2)=false:=dF (by have:(bO m).length=dl m:=rfl;omega)
     simp only [f1,bM]
     exact xZ.bind hdiv h1
theorem aJi {x y:Int} (hx:dl x.natAbs≤30000000000) (hy:dl y.natAbs≤30000000000):Ev (fun K=>qB K (Z x) (Z y)) (Z (Int.gcd x y:Nat)):=by
 unfold qB
 have h1:=jZ false (bN x.natAbs) (by show dl _≤_;omega)
 have h2:=jZ false (bN y.natAbs) (by show dl _≤_;omega)
 rw [dJ,o5,Int.toNat_natCast] at h1 h2
 simp only [Z_d]
 refine Ev.bind h1 (Ev.bind h2 ?_)
 obtain⟨r,h3,h4⟩:=aOE y.natAbs x.natAbs hx hy
 refine Ev.bind h3.ev ?_
 rcases h4 with rfl|rfl
 ·exact Ev.pure _
 ·exact Ev.pure _
theorem aIt {x y:Int} (hx:dl x.natAbs≤40000000000) (hy:dl y.natAbs≤40000000000):Ev (fun K=>nZ K (Z x) (Z y)) (xK x y):=by
 have dx:=bN x.natAbs;have dy:=bN y.natAbs
 have tx:=pL x.natAbs;have ty:=pL y.natAbs
 have lx:(bO x.natAbs).length=dl x.natAbs:=rfl
 have ly:(bO y.natAbs).length=dl y.natAbs:=rfl
 unfold nZ
 simp only [Z_d,uA]
 by_cases h1:x<0
 ·by_cases h2:y<0
  ·simp only [dT h1,dT h2,bne_self_eq_false,bM,bS]
   have h:=xG dy dx ty tx (by omega)
   rw [dJ,dJ] at h
   have e:xK (y.natAbs:Int) (x.natAbs:Int)=xK x y:=by
    unfold xK
    by_cases a:x<y
    ·rw [if_pos a,if_pos (by omega)]
    ·rw [if_neg a,if_neg (by omega)]
     by_cases b:y<x
     ·rw [if_pos b,if_pos (by omega)]
     ·rw [if_neg b,if_neg (by omega)]
   rw [e] at h
   exact Ev.bind h (Ev.pure _)
  ·have e:(decide (x<0) != decide (y<0))=true:=by rw [dT h1,dF h2];rfl
   simp only [e,bS]
   simp only [dT h1,bS]
   unfold xK
   rw [if_pos (by omega)]
   exact Ev.pure _
 ·by_cases h2:y<0
  ·have e:(decide (x<0) != decide (y<0))=true:=by rw [dF h1,dT h2];rfl
   simp only [e,bS]
   simp only [dF h1,bM]
   unfold xK
   rw [if_neg (by omega),if_pos (by omega)]
   exact Ev.pure _
  ·simp only [dF h1,dF h2,bne_self_eq_false,bM]
   have h:=xG dx dy tx ty (by omega)
   rw [dJ,dJ,show(x.natAbs:Int)=x by omega,show(y.natAbs:Int)=y by omega] at h
   exact Ev.bind h (Ev.pure _)
theorem aMo {x:Int} (hx:dl x.natAbs≤40000000000):Ev (fun K=>rU K (Z x)) x.sign:=by
 unfold rU
 have h:=aIt (x:=x) (y:=0) hx (by rw [show Int.natAbs 0=0 from rfl,yE];omega)
 have e:Z 0=(⟨false,[]⟩:aE):=by rw [show(0:Int)=((0:Nat):Int) from rfl,←o5];rfl
 rw [e] at h
 have e2:xK x 0=x.sign:=by
  unfold xK
  by_cases a:x<0
  ·rw [if_pos a,Int.sign_eq_neg_one_of_neg a]
  ·rw [if_neg a]
   by_cases b:0<x
   ·rw [if_pos b,Int.sign_eq_one_of_pos b]
   ·have:x=0:=by omega
    subst this;rfl
 rw [e2] at h
 exact Ev.bind h (Ev.pure _)
theorem aIR (x y:aE) (hl:x.d.length=y.d.length) (hL:x.d.length≤9000000000000):∀(t i:Nat),i+t=x.d.length→∀K k,t<k→iA K x y k (i:Int)=some (if x.d.drop i=y.d.drop i then .go () else .ret false)
 |0,i,hi,K,k,hk=>by
  obtain⟨k',rfl,_⟩:=aY hk
  have:i=x.d.length:=by omega
  subst this
  simp only [iA,dF (show¬(x.d.length:Int)<(x.d.length:Int) by omega),bM]
  rw [if_pos]
  rw [List.drop_of_length_le (Nat.le_refl _),List.drop_of_length_le (by omega)]
 |t+1,i,hi,K,k,hk=>by
  obtain⟨k',rfl,_⟩:=aY hk
  have e1:decide ((i:Int)<(x.d.length:Int))=true:=dT (by omega)
  have e2:=bZ (xs:=x.d) (i:=i) (by omega)
  have e3:=bZ (xs:=y.d) (i:=i) (by omega)
  have e5:aS ((i:Int)+1)=some ((i+1:Nat):Int):=ckN (m:=0) (by omega) (by omega)
  have dx:x.d.drop i=x.d.getD i 0::x.d.drop (i+1):=by
   rw [List.drop_eq_getElem_cons (by omega)];simp [List.getD_eq_getElem?_getD,show i<x.d.length by omega]
  have dy:y.d.drop i=y.d.getD i 0::y.d.drop (i+1):=by
   rw [List.drop_eq_getElem_cons (by omega)];simp [List.getD_eq_getElem?_getD,show i<y.d.length by omega]
  by_cases h:x.d.getD i 0=y.d.getD i 0
  ·have ih:=aIR x y hl hL t (i+1) (by omega) K k' (by omega)
   simp only [iA,e1,e2,e3,e5,nF h,bS,bM,oB,ih]
   by_cases hd:x.d.drop (i+1)=y.d.drop (i+1)
   ·rw [if_pos hd,if_pos (by rw [dx,dy,h,hd])]
   ·rw [if_neg hd,if_neg (by rw [dx,dy];intro e;exact hd (List.cons.inj e).2)]
  ·simp only [iA,e1,e2,e3,nT h,bS,oB]
   rw [if_neg (by rw [dx,dy];intro e;exact h (List.cons.inj e).1)]
theorem aHn (x y:aE) (hL:x.d.length≤9000000000000):Ev (fun K=>oJ K x y) (decide (x=y)):=by
 refine⟨x.d.length+1,fun K hK=>?_⟩
 unfold oJ
 by_cases h1:x.neg=y.neg
 ·have e1:(x.neg != y.neg)=false:=by rw [h1];exact bne_self_eq_false _
  by_cases h2:x.d.length=y.d.length
  ·have e2:((x.d.length:Int) != (y.d.length:Int))=false:=nF (by omega)
   have h:=aIR x y h2 hL x.d.length 0 (by omega) K K (by omega)
   simp only [Int.natCast_zero,List.drop_zero] at h
   simp only [e1,e2,bM,h,oB]
   by_cases h3:x.d=y.d
   ·rw [if_pos h3,dT (by cases x;cases y;simp_all)];rfl
   ·rw [if_neg h3,dF (by intro e;subst e;exact h3 rfl)]
  ·have e2:((x.d.length:Int) != (y.d.length:Int))=true:=nT (by omega)
   simp only [e1,e2,bM,bS]
   rw [dF (by intro e;subst e;exact h2 rfl)]
 ·have e1:(x.neg != y.neg)=true:=bne_iff_ne.2 h1
  simp only [e1,bS]
  rw [dF (by intro e;subst e;exact h1 rfl)]
end Go.Proofs.YtolfcbpgmfbgmaaGreat
set_option linter.unusedVariables false
set_option maxRecDepth 100000
namespace Go.Proofs.YtolfcbpgmfbgmaaGreat
instance tyA42:TyA Tryz.prog 42 4:=mkA Tryz.underlying42 rfl (by kernel_rfl)
theorem tyB42:TyB Tryz.prog 42 [(0,2),(2,2)] (([pB false]++[pS cI ([]:List Int)])++([pB false]++[pS cI ([]:List Int)])):=mkB (z:=.agg #[.bool false,.slice none 0 0,.bool false,.slice none 0 0]) (by kernel_rfl) Tryz.underlying42 (by kernel_rfl) (fun M=>bB.app (bB.app (show bB M [pB false] [.bool false] from zU1) (show bB M [pS cI ([]:List Int)] [.slice none 0 0] from⟨cD cI M,trivial⟩)) (bB.app (show bB M [pB false] [.bool false] from zU1) (show bB M [pS cI ([]:List Int)] [.slice none 0 0] from⟨cD cI M,trivial⟩)))
instance tyF42_0:TyF Tryz.prog 42 0 0:=mkF (ft:=40) (k:=1) Tryz.underlying42 rfl rfl rfl (by kernel_rfl)
instance tyF42_1:TyF Tryz.prog 42 1 2:=mkF (ft:=40) (k:=1) Tryz.underlying42 rfl rfl rfl (by kernel_rfl)
instance tyZ42:TyZ Tryz.prog 42 (([pB false]++[pS cI ([]:List Int)])++([pB false]++[pS cI ([]:List Int)])):=mkZ (z:=.agg #[.bool false,.slice none 0 0,.bool false,.slice none 0 0]) (k:=4) (by kernel_rfl) rfl (fun M=>bB.app (bB.app (show bB M [pB false] [.bool false] from zU1) (show bB M [pS cI ([]:List Int)] [.slice none 0 0] from⟨cD cI M,trivial⟩)) (bB.app (show bB M [pB false] [.bool false] from zU1) (show bB M [pS cI ([]:List Int)] [.slice none 0 0] from⟨cD cI M,trivial⟩)))
def eY (K:Nat) (a0:aK):Option aE:=
 bif((a0.q.d.length:Int)==0) then((iO K 1).bind fun v4=>some v4) else(some a0.q)
theorem kF {K:Nat} {a0:aK} {r:aE} (hF:eY K a0=some r):Ct Tryz.prog 59 [.va (aK.e a0)] (.va (aE.e r)):=by
 unfold eY at hF
 refine aA Tryz.func59 rfl (by kernel_rfl) Tryz.ntmps59 rfl (fun w0 M0=>?_)
 refine aC (aH (bV rfl rfl trivial (fun b1=>?_)))
 refine aN rfl tyZ40 (fun b2=>?_)
 refine go ?_ ?_
 refine aB hF rfl (fun h3 hF=>?_) (fun h3 hF=>?_)
 ·obtain⟨v4,h5,hF⟩:=aW hF m8
  exact bI
 exact bI
def k7 (a0:aE):Option Bool:=
 bif a0.neg then(some false) else(bif((a0.d.length:Int) != 1) then(some false) else((bF a0.d 0).bind fun v4=>some (v4==1)))
theorem vB {a0:aE} {r:Bool} (hF:k7 a0=some r):Ct Tryz.prog 97 [.va (aE.e a0)] (.vc (pB r)):=by
 unfold k7 at hF
 refine aA Tryz.func97 rfl (by kernel_rfl) Tryz.ntmps97 rfl (fun w0 M0=>?_)
 refine aC (aH (bV rfl rfl trivial (fun b1=>?_)))
 refine go ?_ ?_
 refine cC hF (fun h2 hF=>?_) (fun h2 hF=>?_)
 ·refine go ?_ ?_
  refine fV rfl ?_
  exact bI
 refine go ?_ ?_
 refine aB hF rfl (fun h3 hF=>?_) (fun h3 hF=>?_)
 ·exact bI
 obtain⟨v4,h5,hF⟩:=aM hF
 exact bI
def gQ (K:Nat) (a0:aE) (a1:aE):Option aK:=
 bif((a1.d.length:Int)==0) then(some (⟨(⟨false,([]:List Int)⟩:aE),(⟨false,([]:List Int)⟩:aE)⟩:aK)) else(bif((a0.d.length:Int)==0) then(some (⟨(⟨false,([]:List Int)⟩:aE),(⟨false,([]:List Int)⟩:aE)⟩:aK)) else((qB K a0 a1).bind fun v6=>(k8 K a0 v6).bind fun v9=>(k8 K a1 v6).bind fun v13=>bif v13.1.neg then((m5 K v9.1).bind fun v18=>(m5 K v13.1).bind fun v20=>(k7 v20).bind fun v22=>bif v22 then(some (⟨v18,(⟨false,([]:List Int)⟩:aE)⟩:aK)) else(some (⟨v18,v20⟩:aK))) else((k7 v13.1).bind fun v25=>bif v25 then(some (⟨v9.1,(⟨false,([]:List Int)⟩:aE)⟩:aK)) else(some (⟨v9.1,v13.1⟩:aK)))))
theorem tY {K:Nat} {a0:aE} {a1:aE} {r:aK} (hF:gQ K a0 a1=some r):Ct Tryz.prog 60 [.va (aE.e a0),.va (aE.e a1)] (.va (aK.e r)):=by
 unfold gQ at hF
 refine aA Tryz.func60 rfl (by kernel_rfl) Tryz.ntmps60 rfl (fun w0 M0=>?_)
 refine aC (aH (bV rfl rfl trivial (fun b1=>?_)))
 refine bV rfl rfl trivial (fun b2=>?_)
 refine aN rfl tyZ42 (fun b3=>?_)
 refine go ?_ ?_
 refine cC hF (fun h4 hF=>?_) (fun h4 hF=>?_)
 ·refine go ?_ ?_
  refine fV rfl ?_
  refine aC (aH (aI (gU (is:=[]) (xs:=[]) (ps:=[]) rfl tyB42 rfl rfl trivial rfl) trivial ?_))
  exact bI
 refine go ?_ ?_
 refine aB hF rfl (fun h5 hF=>?_) (fun h5 hF=>?_)
 ·refine aC (aH (aI (gU (is:=[]) (xs:=[]) (ps:=[]) rfl tyB42 rfl rfl trivial rfl) trivial ?_))
  exact bI
 obtain⟨v6,h7,hF⟩:=aW hF aAM
 refine go ?_ ?_
 refine aN rfl tyZ40 (fun b8=>?_)
 obtain⟨v9,h10,hF⟩:=aW hF uO
 refine go ?_ ?_
 refine aN rfl tyZ40 (fun b11=>?_)
 refine aN rfl tyZ40 (fun b12=>?_)
 obtain⟨v13,h14,hF⟩:=aW hF uO
 refine go ?_ ?_
 refine aN rfl tyZ40 (fun b15=>?_)
 refine aN rfl tyZ40 (fun b16=>?_)
 refine go ?_ ?_
 refine aB hF rfl (fun h17 hF=>?_) (fun h17 hF=>?_)
 ·obtain⟨v18,h19,hF⟩:=aW hF xS
  obtain⟨v20,h21,hF⟩:=aW hF xS
  obtain⟨v22,h23,hF⟩:=aW hF vB
  refine go ?_ ?_
  refine aB hF rfl (fun h24 hF=>?_) (fun h24 hF=>?_)
  ·refine go ?_ ?_
   refine aI (gU (is:=[0]) (xs:=[.tmp 44]) (ps:=[.va (aE.e v18)]) rfl tyB42 rfl rfl ⟨trivial,trivial⟩ rfl) zU1 ?_
   exact bI
  refine go ?_ ?_
  refine aI (gU (is:=[0,1]) (xs:=[.tmp 46,.tmp 47]) (ps:=[.va (aE.e v18),.va (aE.e v20)]) rfl tyB42 rfl rfl ⟨trivial,trivial,trivial⟩ rfl) zU2 ?_
  exact bI
 obtain⟨v25,h26,hF⟩:=aW hF vB
 refine go ?_ ?_
 refine aB hF rfl (fun h27 hF=>?_) (fun h27 hF=>?_)
 ·refine go ?_ ?_
  refine aI (gU (is:=[0]) (xs:=[.tmp 44]) (ps:=[.va (aE.e v9.1)]) rfl tyB42 rfl rfl ⟨trivial,trivial⟩ rfl) zU1 ?_
  exact bI
 refine go ?_ ?_
 refine aI (gU (is:=[0,1]) (xs:=[.tmp 46,.tmp 47]) (ps:=[.va (aE.e v9.1),.va (aE.e v13.1)]) rfl tyB42 rfl rfl ⟨trivial,trivial,trivial⟩ rfl) zU2 ?_
 exact bI
abbrev aEt:Nat:=19
def s0 (K:Nat) (a0:aK) (a1:aK):Option aK:=
 (eY K a1).bind fun v6=>(eW K a0.p v6).bind fun v8=>(eY K a0).bind fun v12=>(eW K a1.p v12).bind fun v14=>(pX K v8 v14).bind fun v18=>(eY K a0).bind fun v20=>(eY K a1).bind fun v22=>(eW K v20 v22).bind fun v24=>(gQ K v18 v24).bind fun v26=>some v26
theorem aAv {K:Nat} {a0:aK} {a1:aK} {r:aK} (hF:s0 K a0 a1=some r):Ct Tryz.prog 19 [.va (aK.e a0),.va (aK.e a1)] (.va (aK.e r)):=by
 unfold s0 at hF
 refine aA Tryz.func19 rfl (by kernel_rfl) Tryz.ntmps19 rfl (fun w0 M0=>?_)
 refine aC (aH (bV rfl rfl trivial (fun b1=>?_)))
 refine bV rfl rfl trivial (fun b2=>?_)
 refine aN rfl tyZ42 (fun b3=>?_)
 obtain⟨v6,h7,hF⟩:=aW hF kF
 obtain⟨v8,h9,hF⟩:=aW hF kD
 refine go ?_ ?_
 refine dr [0,1,0,4,15,0,63] 6 1 ?_ (fun bs5 G4=>?_)
 obtain⟨v12,h13,hF⟩:=aW hF kF
 obtain⟨v14,h15,hF⟩:=aW hF kD
 refine go ?_ ?_
 refine dr [0,1,0,4,15,0,63] 6 1 ?_ (fun bs11 G10=>?_)
 obtain⟨v18,h19,hF⟩:=aW hF aAz
 obtain⟨v20,h21,hF⟩:=aW hF kF
 obtain⟨v22,h23,hF⟩:=aW hF kF
 obtain⟨v24,h25,hF⟩:=aW hF kD
 obtain⟨v26,h27,hF⟩:=aW hF tY
 refine go ?_ ?_
 refine dr [0,0,3,0,15,0,63,127,255,511] 9 1 ?_ (fun bs17 G16=>?_)
 exact bI
abbrev aEY:Nat:=20
def oE (K:Nat) (a0:Int) (a1:Int):Option aK:=
 (iO K a0).bind fun v2=>(iO K a1).bind fun v4=>(gQ K v2 v4).bind fun v6=>some v6
theorem aAV {K:Nat} {a0:Int} {a1:Int} {r:aK} (hF:oE K a0 a1=some r):Ct Tryz.prog 20 [.vc (pI .i64 a0),.vc (pI .i64 a1)] (.va (aK.e r)):=by
 unfold oE at hF
 refine aA Tryz.func20 rfl (by kernel_rfl) Tryz.ntmps20 rfl (fun w0 M0=>?_)
 refine aC (aH (aN rfl tyZ42 (fun b1=>?_)))
 obtain⟨v2,h3,hF⟩:=aW hF m8
 obtain⟨v4,h5,hF⟩:=aW hF m8
 obtain⟨v6,h7,hF⟩:=aW hF tY
 exact bI
abbrev aEu:Nat:=41
def tD (K:Nat) (a0:aK):Option aK:=
 (m5 K a0.p).bind fun v5=>some (⟨v5,a0.q⟩:aK)
theorem aAJ {K:Nat} {a0:aK} {r:aK} (hF:tD K a0=some r):Ct Tryz.prog 41 [.va (aK.e a0)] (.va (aK.e r)):=by
 unfold tD at hF
 refine aA Tryz.func41 rfl (by kernel_rfl) Tryz.ntmps41 rfl (fun w0 M0=>?_)
 refine aC (aH (bV rfl rfl trivial (fun b1=>?_)))
 refine aN rfl tyZ42 (fun b2=>?_)
 obtain⟨v5,h6,hF⟩:=aW hF xS
 refine go ?_ ?_
 refine iQ [0,1,3,0,8,31,63] 6 1 [.v (.vc (pP (some b1) 0)),.v (.va (aE.e a0.p)),.v (.va (aE.e v5)),.v (.vc (pP (some b1) 2)),.v (.va (aE.e a0.q)),.v (.va ((aE.e v5)++(aE.e a0.q)))] aU ⟨d0 (gV (off:=0) (k:=0) rfl tyF42_0) zU1,d0 (gC 1 2 rfl rfl rfl rfl (.agg tyA40)) zU1,d0 (bE rfl h6 rfl) zU1,d0 (gV (off:=0) (k:=2) rfl tyF42_1) zU1,d0 (gC 1 2 rfl rfl rfl rfl (.agg tyA40)) zU1,d0 (gU (is:=[0,1]) (xs:=[.tmp 5,.tmp 7]) (ps:=[.va (aE.e v5),.va (aE.e a0.q)]) rfl tyB42 rfl rfl ⟨trivial,trivial,trivial⟩ rfl) zU2,trivial⟩ (fun bs4 G3=>?_)
 exact bI
abbrev aEl:Nat:=30
def vY (K:Nat) (a0:aK) (a1:aK):Option aK:=
 (tD K a1).bind fun v6=>(s0 K a0 v6).bind fun v8=>some v8
theorem aDz {K:Nat} {a0:aK} {a1:aK} {r:aK} (hF:vY K a0 a1=some r):Ct Tryz.prog 30 [.va (aK.e a0),.va (aK.e a1)] (.va (aK.e r)):=by
 unfold vY at hF
 refine aA Tryz.func30 rfl (by kernel_rfl) Tryz.ntmps30 rfl (fun w0 M0=>?_)
 refine aC (aH (bV rfl rfl trivial (fun b1=>?_)))
 refine bV rfl rfl trivial (fun b2=>?_)
 refine aN rfl tyZ42 (fun b3=>?_)
 obtain⟨v6,h7,hF⟩:=aW hF aAJ
 obtain⟨v8,h9,hF⟩:=aW hF aAv
 refine go ?_ ?_
 refine dr [0,0,2,7,15] 4 1 ?_ (fun bs5 G4=>?_)
 exact bI
def u7 (a0:aE):Option Bool:=
 bif(!a0.neg) then(bif((a0.d.length:Int)==1) then((bF a0.d 0).bind fun v4=>some (v4==1)) else(some false)) else(some false)
theorem zU {a0:aE} {r:Bool} (hF:u7 a0=some r):Ct Tryz.prog 132 [.va (aE.e a0)] (.vc (pB r)):=by
 unfold u7 at hF
 refine aA Tryz.func132 rfl (by kernel_rfl) Tryz.ntmps132 rfl (fun w0 M0=>?_)
 refine aC (aH (bV rfl rfl trivial (fun b1=>?_)))
 refine go ?_ ?_
 refine cC hF (fun h2 hF=>?_) (fun h2 hF=>?_)
 ·refine go ?_ ?_
  refine cC hF (fun h3 hF=>?_) (fun h3 hF=>?_)
  ·obtain⟨v4,h5,hF⟩:=aM hF
   exact bI
  exact bI
 exact bI
def oT (a0:aE) (a1:aE):Option aK:=
 bif a1.neg then((tR a0).bind fun v7=>(tR a1).bind fun v9=>(u7 v9).bind fun v11=>bif v11 then(some (⟨v7,(⟨false,([]:List Int)⟩:aE)⟩:aK)) else(some (⟨v7,v9⟩:aK))) else((u7 a1).bind fun v14=>bif v14 then(some (⟨a0,(⟨false,([]:List Int)⟩:aE)⟩:aK)) else(some (⟨a0,a1⟩:aK)))
theorem w9 {a0:aE} {a1:aE} {r:aK} (hF:oT a0 a1=some r):Ct Tryz.prog 125 [.va (aE.e a0),.va (aE.e a1)] (.va (aK.e r)):=by
 unfold oT at hF
 refine aA Tryz.func125 rfl (by kernel_rfl) Tryz.ntmps125 rfl (fun w0 M0=>?_)
 refine aC (aH (bV rfl rfl trivial (fun b1=>?_)))
 refine bV rfl rfl trivial (fun b2=>?_)
 refine aN rfl tyZ42 (fun b3=>?_)
 refine go ?_ ?_
 refine aB hF rfl (fun h4 hF=>?_) (fun h4 hF=>?_)
 ·obtain⟨v7,h8,hF⟩:=aW hF aAK
  obtain⟨v9,h10,hF⟩:=aW hF aAK
  refine dr [0,1,0,7,15,31] 4 2 ?_ (fun bs6 G5=>?_)
  obtain⟨v11,h12,hF⟩:=aW hF zU
  refine go ?_ ?_
  refine aB hF rfl (fun h13 hF=>?_) (fun h13 hF=>?_)
  ·refine go ?_ ?_
   refine aI (gU (is:=[0]) (xs:=[.tmp 13]) (ps:=[.va (aE.e v7)]) rfl tyB42 rfl rfl ⟨trivial,trivial⟩ rfl) zU1 ?_
   exact bI
  refine go ?_ ?_
  refine aI (gU (is:=[0,1]) (xs:=[.tmp 15,.tmp 16]) (ps:=[.va (aE.e v7),.va (aE.e v9)]) rfl tyB42 rfl rfl ⟨trivial,trivial,trivial⟩ rfl) zU2 ?_
  exact bI
 obtain⟨v14,h15,hF⟩:=aW hF zU
 refine go ?_ ?_
 refine aB hF rfl (fun h16 hF=>?_) (fun h16 hF=>?_)
 ·refine go ?_ ?_
  refine aI (gU (is:=[0]) (xs:=[.tmp 13]) (ps:=[.va (aE.e a0)]) rfl tyB42 rfl rfl ⟨trivial,trivial⟩ rfl) zU1 ?_
  exact bI
 refine go ?_ ?_
 refine aI (gU (is:=[0,1]) (xs:=[.tmp 15,.tmp 16]) (ps:=[.va (aE.e a0),.va (aE.e a1)]) rfl tyB42 rfl rfl ⟨trivial,trivial,trivial⟩ rfl) zU2 ?_
 exact bI
def kJ (K:Nat) (a0:aE) (a1:aE):Option aK:=
 bif((a1.d.length:Int)==0) then(some (⟨(⟨false,([]:List Int)⟩:aE),(⟨false,([]:List Int)⟩:aE)⟩:aK)) else(bif((a0.d.length:Int)==0) then(some (⟨(⟨false,([]:List Int)⟩:aE),(⟨false,([]:List Int)⟩:aE)⟩:aK)) else((vM K a0 a1).bind fun v6=>(u7 v6).bind fun v9=>bif(!v9) then((vL K a0 v6).bind fun v12=>(vL K a1 v6).bind fun v14=>(oT v12.1 v14.1).bind fun v16=>some v16) else((oT a0 a1).bind fun v18=>some v18)))
theorem wG {K:Nat} {a0:aE} {a1:aE} {r:aK} (hF:kJ K a0 a1=some r):Ct Tryz.prog 85 [.va (aE.e a0),.va (aE.e a1)] (.va (aK.e r)):=by
 unfold kJ at hF
 refine aA Tryz.func85 rfl (by kernel_rfl) Tryz.ntmps85 rfl (fun w0 M0=>?_)
 refine aC (aH (bV rfl rfl trivial (fun b1=>?_)))
 refine bV rfl rfl trivial (fun b2=>?_)
 refine aN rfl tyZ42 (fun b3=>?_)
 refine go ?_ ?_
 refine cC hF (fun h4 hF=>?_) (fun h4 hF=>?_)
 ·refine go ?_ ?_
  refine fV rfl ?_
  refine aC (aH (aI (gU (is:=[]) (xs:=[]) (ps:=[]) rfl tyB42 rfl rfl trivial rfl) trivial ?_))
  exact bI
 refine go ?_ ?_
 refine aB hF rfl (fun h5 hF=>?_) (fun h5 hF=>?_)
 ·refine aC (aH (aI (gU (is:=[]) (xs:=[]) (ps:=[]) rfl tyB42 rfl rfl trivial rfl) trivial ?_))
  exact bI
 obtain⟨v6,h7,hF⟩:=aW hF aCB
 refine go ?_ ?_
 refine aN rfl tyZ40 (fun b8=>?_)
 obtain⟨v9,h10,hF⟩:=aW hF zU
 refine go ?_ ?_
 refine aB hF rfl (fun h11 hF=>?_) (fun h11 hF=>?_)
 ·obtain⟨v12,h13,hF⟩:=aW hF aCN
  obtain⟨v14,h15,hF⟩:=aW hF aCN
  obtain⟨v16,h17,hF⟩:=aW hF w9
  exact bI
 obtain⟨v18,h19,hF⟩:=aW hF w9
 exact bI
abbrev aN4:Nat:=47
def aEG (K:Nat) (a0:Int) (a1:Int):Option aK:=
 (m6 a0).bind fun v2=>(m6 a1).bind fun v4=>(kJ K v2 v4).bind fun v6=>some v6
theorem aMm {K:Nat} {a0:Int} {a1:Int} {r:aK} (hF:aEG K a0 a1=some r):Ct Tryz.prog 47 [.vc (pI .i64 a0),.vc (pI .i64 a1)] (.va (aK.e r)):=by
 unfold aEG at hF
 refine aA Tryz.func47 rfl (by kernel_rfl) Tryz.ntmps47 rfl (fun w0 M0=>?_)
 refine aC (aH (aN rfl tyZ42 (fun b1=>?_)))
 obtain⟨v2,h3,hF⟩:=aW hF tO
 obtain⟨v4,h5,hF⟩:=aW hF tO
 obtain⟨v6,h7,hF⟩:=aW hF wG
 exact bI
abbrev aKk:Nat:=50
def zB (a0:aK):Option Int:=
 (wR a0.p).bind fun v2=>some v2
theorem aCx {a0:aK} {r:Int} (hF:zB a0=some r):Ct Tryz.prog 50 [.va (aK.e a0)] (.vc (pI .i64 r)):=by
 unfold zB at hF
 refine aA Tryz.func50 rfl (by kernel_rfl) Tryz.ntmps50 rfl (fun w0 M0=>?_)
 refine aC (aH (bV rfl rfl trivial (fun b1=>?_)))
 obtain⟨v2,h3,hF⟩:=aW hF aFm
 exact bI
abbrev aDC:Nat:=54
def uY (K:Nat) (a0:aK):Option Int:=
 (rU K a0.p).bind fun v2=>some v2
theorem aDl {K:Nat} {a0:aK} {r:Int} (hF:uY K a0=some r):Ct Tryz.prog 54 [.va (aK.e a0)] (.vc (pI .i64 r)):=by
 unfold uY at hF
 refine aA Tryz.func54 rfl (by kernel_rfl) Tryz.ntmps54 rfl (fun w0 M0=>?_)
 refine aC (aH (bV rfl rfl trivial (fun b1=>?_)))
 obtain⟨v2,h3,hF⟩:=aW hF aDe
 exact bI
abbrev aDY:Nat:=55
def uW (K:Nat) (a0:aK) (a1:aK):Option Bool:=
 (oJ K a0.p a1.p).bind fun v3=>bif v3 then((oJ K a0.q a1.q).bind fun v6=>some v6) else(some false)
theorem aDf {K:Nat} {a0:aK} {a1:aK} {r:Bool} (hF:uW K a0 a1=some r):Ct Tryz.prog 55 [.va (aK.e a0),.va (aK.e a1)] (.vc (pB r)):=by
 unfold uW at hF
 refine aA Tryz.func55 rfl (by kernel_rfl) Tryz.ntmps55 rfl (fun w0 M0=>?_)
 refine aC (aH (bV rfl rfl trivial (fun b1=>?_)))
 refine bV rfl rfl trivial (fun b2=>?_)
 obtain⟨v3,h4,hF⟩:=aW hF aAe
 refine go ?_ ?_
 refine cC hF (fun h5 hF=>?_) (fun h5 hF=>?_)
 ·obtain⟨v6,h7,hF⟩:=aW hF aAe
  exact bI
 exact bI
abbrev aMk:Nat:=69
def aBk (a0:aK):Option aK:=
 (tR a0.p).bind fun v5=>some (⟨v5,a0.q⟩:aK)
theorem aGk {a0:aK} {r:aK} (hF:aBk a0=some r):Ct Tryz.prog 69 [.va (aK.e a0)] (.va (aK.e r)):=by
 unfold aBk at hF
 refine aA Tryz.func69 rfl (by kernel_rfl) Tryz.ntmps69 rfl (fun w0 M0=>?_)
 refine aC (aH (bV rfl rfl trivial (fun b1=>?_)))
 refine aN rfl tyZ42 (fun b2=>?_)
 obtain⟨v5,h6,hF⟩:=aW hF aAK
 refine go ?_ ?_
 refine iQ [0,1,3,0,8,31,63] 6 1 [.v (.vc (pP (some b1) 0)),.v (.va (aE.e a0.p)),.v (.va (aE.e v5)),.v (.vc (pP (some b1) 2)),.v (.va (aE.e a0.q)),.v (.va ((aE.e v5)++(aE.e a0.q)))] aU ⟨d0 (gV (off:=0) (k:=0) rfl tyF42_0) zU1,d0 (gC 1 2 rfl rfl rfl rfl (.agg tyA40)) zU1,d0 (bE rfl h6 rfl) zU1,d0 (gV (off:=0) (k:=2) rfl tyF42_1) zU1,d0 (gC 1 2 rfl rfl rfl rfl (.agg tyA40)) zU1,d0 (gU (is:=[0,1]) (xs:=[.tmp 5,.tmp 7]) (ps:=[.va (aE.e v5),.va (aE.e a0.q)]) rfl tyB42 rfl rfl ⟨trivial,trivial,trivial⟩ rfl) zU2,trivial⟩ (fun bs4 G3=>?_)
 exact bI
def aCZ:Option aE:=
 (m6 1).bind fun v2=>some v2
theorem aJ4 {r:aE} (hF:aCZ=some r):Ct Tryz.prog 159 [] (.va (aE.e r)):=by
 unfold aCZ at hF
 refine aA Tryz.func159 rfl (by kernel_rfl) Tryz.ntmps159 rfl (fun w0 M0=>?_)
 refine aC (aH (aN rfl tyZ40 (fun b1=>?_)))
 obtain⟨v2,h3,hF⟩:=aW hF tO
 exact bI
def eV (a0:aK):Option aE:=
 bif((a0.q.d.length:Int)==0) then((aCZ).bind fun v4=>some v4) else(some a0.q)
theorem mA {a0:aK} {r:aE} (hF:eV a0=some r):Ct Tryz.prog 123 [.va (aK.e a0)] (.va (aE.e r)):=by
 unfold eV at hF
 refine aA Tryz.func123 rfl (by kernel_rfl) Tryz.ntmps123 rfl (fun w0 M0=>?_)
 refine aC (aH (bV rfl rfl trivial (fun b1=>?_)))
 refine aN rfl tyZ40 (fun b2=>?_)
 refine go ?_ ?_
 refine aB hF rfl (fun h3 hF=>?_) (fun h3 hF=>?_)
 ·obtain⟨v4,h5,hF⟩:=aW hF aJ4
  exact bI
 exact bI
abbrev aMc:Nat:=71
def aBr (K:Nat) (a0:aK) (a1:aK):Option aK:=
 bif((a0.q.d.length:Int)==0) then(bif((a1.q.d.length:Int)==0) then((oQ K a0.p a1.p).bind fun v6=>some (⟨v6,(⟨false,([]:List Int)⟩:aE)⟩:aK)) else(bif((a0.p.d.length:Int)==0) then(some a1) else(bif((a1.p.d.length:Int)==0) then(some a0) else((eV a0).bind fun v12=>(eV a1).bind fun v14=>(bR K a0.p v14).bind fun v18=>(bR K a1.p v12).bind fun v20=>(oQ K v18 v20).bind fun v22=>(bR K v12 v14).bind fun v24=>(kJ K v22 v24).bind fun v26=>some v26)))) else(bif((a0.p.d.length:Int)==0) then(some a1) else(bif((a1.p.d.length:Int)==0) then(some a0) else((eV a0).bind fun v32=>(eV a1).bind fun v34=>(bR K a0.p v34).bind fun v38=>(bR K a1.p v32).bind fun v40=>(oQ K v38 v40).bind fun v42=>(bR K v32 v34).bind fun v44=>(kJ K v42 v44).bind fun v46=>some v46)))
theorem aGm {K:Nat} {a0:aK} {a1:aK} {r:aK} (hF:aBr K a0 a1=some r):Ct Tryz.prog 71 [.va (aK.e a0),.va (aK.e a1)] (.va (aK.e r)):=by
 unfold aBr at hF
 refine aA Tryz.func71 rfl (by kernel_rfl) Tryz.ntmps71 rfl (fun w0 M0=>?_)
 refine aC (aH (bV rfl rfl trivial (fun b1=>?_)))
 refine bV rfl rfl trivial (fun b2=>?_)
 refine aN rfl tyZ42 (fun b3=>?_)
 refine go ?_ ?_
 refine aG (go ?_ ?_)
 refine cC hF (fun h4 hF=>?_) (fun h4 hF=>?_)
 ·refine go ?_ ?_
  refine aB hF rfl (fun h5 hF=>?_) (fun h5 hF=>?_)
  ·obtain⟨v6,h7,hF⟩:=aW hF aAu
   refine go ?_ ?_
   refine aI (gU (is:=[0]) (xs:=[.tmp 24]) (ps:=[.va (aE.e v6)]) rfl tyB42 rfl rfl ⟨trivial,trivial⟩ rfl) zU1 ?_
   exact bI
  refine go ?_ ?_
  refine aB hF rfl (fun h8 hF=>?_) (fun h8 hF=>?_)
  ·exact bI
  refine go ?_ ?_
  refine aB hF rfl (fun h9 hF=>?_) (fun h9 hF=>?_)
  ·exact bI
  obtain⟨v12,h13,hF⟩:=aW hF mA
  obtain⟨v14,h15,hF⟩:=aW hF mA
  refine go ?_ ?_
  refine dr [0,1,0,7,0,0,63,127] 6 2 ?_ (fun bs11 G10=>?_)
  obtain⟨v18,h19,hF⟩:=aW hF iJ
  obtain⟨v20,h21,hF⟩:=aW hF iJ
  obtain⟨v22,h23,hF⟩:=aW hF aAu
  obtain⟨v24,h25,hF⟩:=aW hF iJ
  obtain⟨v26,h27,hF⟩:=aW hF wG
  refine go ?_ ?_
  refine dr [0,1,0,7,0,16,0,127,255,0,0,2047,4095,8191] 13 1 ?_ (fun bs17 G16=>?_)
  exact bI
 refine go ?_ ?_
 refine wX rfl ?_
 refine go ?_ ?_
 refine aB hF rfl (fun h28 hF=>?_) (fun h28 hF=>?_)
 ·exact bI
 refine go ?_ ?_
 refine aB hF rfl (fun h29 hF=>?_) (fun h29 hF=>?_)
 ·exact bI
 obtain⟨v32,h33,hF⟩:=aW hF mA
 obtain⟨v34,h35,hF⟩:=aW hF mA
 refine go ?_ ?_
 refine dr [0,1,0,7,0,0,63,127] 6 2 ?_ (fun bs31 G30=>?_)
 obtain⟨v38,h39,hF⟩:=aW hF iJ
 obtain⟨v40,h41,hF⟩:=aW hF iJ
 obtain⟨v42,h43,hF⟩:=aW hF aAu
 obtain⟨v44,h45,hF⟩:=aW hF iJ
 obtain⟨v46,h47,hF⟩:=aW hF wG
 refine go ?_ ?_
 refine dr [0,1,0,7,0,16,0,127,255,0,0,2047,4095,8191] 13 1 ?_ (fun bs37 G36=>?_)
 exact bI
abbrev aML:Nat:=72
def aBp (K:Nat) (a0:aK) (a1:aK):Option aK:=
 bif((a0.p.d.length:Int)==0) then(some (⟨(⟨false,([]:List Int)⟩:aE),(⟨false,([]:List Int)⟩:aE)⟩:aK)) else(bif((a1.p.d.length:Int)==0) then(some (⟨(⟨false,([]:List Int)⟩:aE),(⟨false,([]:List Int)⟩:aE)⟩:aK)) else(bif((a0.q.d.length:Int)==0) then(bif((a1.q.d.length:Int)==0) then((bR K a0.p a1.p).bind fun v8=>some (⟨v8,(⟨false,([]:List Int)⟩:aE)⟩:aK)) else((eV a1).bind fun v12=>(kJ K a0.p v12).bind fun v14=>(eV a0).bind fun v16=>(kJ K a1.p v16).bind fun v18=>(bR K v14.p v18.p).bind fun v22=>(eV v14).bind fun v24=>(eV v18).bind fun v26=>(bR K v24 v26).bind fun v28=>(oT v22 v28).bind fun v30=>some v30)) else((eV a1).bind fun v34=>(kJ K a0.p v34).bind fun v36=>(eV a0).bind fun v38=>(kJ K a1.p v38).bind fun v40=>(bR K v36.p v40.p).bind fun v44=>(eV v36).bind fun v46=>(eV v40).bind fun v48=>(bR K v46 v48).bind fun v50=>(oT v44 v50).bind fun v52=>some v52)))
theorem aGG {K:Nat} {a0:aK} {a1:aK} {r:aK} (hF:aBp K a0 a1=some r):Ct Tryz.prog 72 [.va (aK.e a0),.va (aK.e a1)] (.va (aK.e r)):=by
 unfold aBp at hF
 refine aA Tryz.func72 rfl (by kernel_rfl) Tryz.ntmps72 rfl (fun w0 M0=>?_)
 refine aC (aH (bV rfl rfl trivial (fun b1=>?_)))
 refine bV rfl rfl trivial (fun b2=>?_)
 refine aN rfl tyZ42 (fun b3=>?_)
 refine go ?_ ?_
 refine cC hF (fun h4 hF=>?_) (fun h4 hF=>?_)
 ·refine go ?_ ?_
  refine fV rfl ?_
  refine aC (aH (aI (gU (is:=[]) (xs:=[]) (ps:=[]) rfl tyB42 rfl rfl trivial rfl) trivial ?_))
  exact bI
 refine go ?_ ?_
 refine aB hF rfl (fun h5 hF=>?_) (fun h5 hF=>?_)
 ·refine aC (aH (aI (gU (is:=[]) (xs:=[]) (ps:=[]) rfl tyB42 rfl rfl trivial rfl) trivial ?_))
  exact bI
 refine go ?_ ?_
 refine cC hF (fun h6 hF=>?_) (fun h6 hF=>?_)
 ·refine go ?_ ?_
  refine aB hF rfl (fun h7 hF=>?_) (fun h7 hF=>?_)
  ·obtain⟨v8,h9,hF⟩:=aW hF iJ
   refine go ?_ ?_
   refine aI (gU (is:=[0]) (xs:=[.tmp 36]) (ps:=[.va (aE.e v8)]) rfl tyB42 rfl rfl ⟨trivial,trivial⟩ rfl) zU1 ?_
   exact bI
  obtain⟨v12,h13,hF⟩:=aW hF mA
  obtain⟨v14,h15,hF⟩:=aW hF wG
  obtain⟨v16,h17,hF⟩:=aW hF mA
  obtain⟨v18,h19,hF⟩:=aW hF wG
  refine go ?_ ?_
  refine dr [0,1,0,4,15,0,32,0,159,511,0,0,4095,8191] 12 2 ?_ (fun bs11 G10=>?_)
  obtain⟨v22,h23,hF⟩:=aW hF iJ
  obtain⟨v24,h25,hF⟩:=aW hF mA
  obtain⟨v26,h27,hF⟩:=aW hF mA
  obtain⟨v28,h29,hF⟩:=aW hF iJ
  obtain⟨v30,h31,hF⟩:=aW hF w9
  refine go ?_ ?_
  refine dr [0,1,0,4,15,0,63,0,255,511,1023,2047] 11 1 ?_ (fun bs21 G20=>?_)
  exact bI
 refine go ?_ ?_
 refine wX rfl ?_
 obtain⟨v34,h35,hF⟩:=aW hF mA
 obtain⟨v36,h37,hF⟩:=aW hF wG
 obtain⟨v38,h39,hF⟩:=aW hF mA
 obtain⟨v40,h41,hF⟩:=aW hF wG
 refine go ?_ ?_
 refine dr [0,1,0,4,15,0,32,0,159,511,0,0,4095,8191] 12 2 ?_ (fun bs33 G32=>?_)
 obtain⟨v44,h45,hF⟩:=aW hF iJ
 obtain⟨v46,h47,hF⟩:=aW hF mA
 obtain⟨v48,h49,hF⟩:=aW hF mA
 obtain⟨v50,h51,hF⟩:=aW hF iJ
 obtain⟨v52,h53,hF⟩:=aW hF w9
 refine go ?_ ?_
 refine dr [0,1,0,4,15,0,63,0,255,511,1023,2047] 11 1 ?_ (fun bs43 G42=>?_)
 exact bI
abbrev aEi:Nat:=74
def v0 (K:Nat) (a0:aK) (a1:aK):Option aK:=
 (eW K a0.p a1.p).bind fun v6=>(eY K a0).bind fun v8=>(eY K a1).bind fun v10=>(eW K v8 v10).bind fun v12=>(gQ K v6 v12).bind fun v14=>some v14
theorem aDB {K:Nat} {a0:aK} {a1:aK} {r:aK} (hF:v0 K a0 a1=some r):Ct Tryz.prog 74 [.va (aK.e a0),.va (aK.e a1)] (.va (aK.e r)):=by
 unfold v0 at hF
 refine aA Tryz.func74 rfl (by kernel_rfl) Tryz.ntmps74 rfl (fun w0 M0=>?_)
 refine aC (aH (bV rfl rfl trivial (fun b1=>?_)))
 refine bV rfl rfl trivial (fun b2=>?_)
 refine aN rfl tyZ42 (fun b3=>?_)
 obtain⟨v6,h7,hF⟩:=aW hF kD
 obtain⟨v8,h9,hF⟩:=aW hF kF
 obtain⟨v10,h11,hF⟩:=aW hF kF
 obtain⟨v12,h13,hF⟩:=aW hF kD
 obtain⟨v14,h15,hF⟩:=aW hF tY
 refine go ?_ ?_
 refine dr [0,1,0,4,15,0,63,0,255,511,1023,2047] 11 1 ?_ (fun bs5 G4=>?_)
 exact bI
def vV (K:Nat):Option Bool:=
 some true
def gY (K:Nat) (a0:List Int) (a1:List Int):Nat→Int→Option (LR Bool Unit)
 |0,_=>none
 |k+1,x3=>bif(decide (x3<(a0.length:Int))) then((bF a0 x3).bind fun v9=>(bF a1 x3).bind fun v11=>bif(v9 != v11) then(some (.ret false)) else((aS (x3+1)).bind fun v14=>gY K a0 a1 k v14)) else(some (.go ()))
def rT (K:Nat) (a0:List Int) (a1:List Int):Option Bool:=
 bif((a0.length:Int) != (a1.length:Int)) then(some false) else((gY K a0 a1 K 0).bind fun o=>match o with| .ret r=>some r| .go _=>vV K)
theorem aDq {K:Nat} {a0:List Int} {a1:List Int} {r:Bool} (hF:rT K a0 a1=some r):Ct Tryz.prog 128 [.vc (pS cI a0),.vc (pS cI a1)] (.vc (pB r)):=by
 unfold rT at hF
 refine aA Tryz.func128 rfl (by kernel_rfl) Tryz.ntmps128 rfl (fun w0 M0=>?_)
 refine go ?_ ?_
 refine aB hF rfl (fun h1 hF=>?_) (fun h1 hF=>?_)
 ·exact bI
 refine go ?_ ?_
 refine aG (aP (fun H E=>vV K=some r∧H=[]∧E=[]) ?_ (fun Jj5=>?_))
 ·rintro _ _ ⟨hF,rfl,rfl⟩
  unfold vV at hF
  exact bI
 obtain⟨ol4,hL,hRl4⟩:=aM hF
 refine cA (fun k a w=>∃(x3:Int),gY K a0 a1 k x3=some ol4∧hs _ [] [(0,.vc (pS cI a0)),(1,.vc (pS cI a1)),(12,.vc (pI .i64 (a0.length:Int))),(13,.vc (pI .i64 x3))] a w) K (fun a w ⟨_,hF,_⟩=>by cases hF) (fun k a w ⟨x3,hF,hh⟩=>b0 ?_ hh) (fun a w hh=>⟨0,hL,dI [] hh⟩)
 rw [gY.eq_2] at hF
 refine go ?_ ?_
 refine aB hF rfl (fun h6 hF=>?_) (fun h6 hF=>?_)
 ·refine go ?_ ?_
  refine aG ?_
  obtain⟨v9,h10,v11,h12,hF⟩:=tW hF
  refine go ?_ ?_
  refine dr [0,0,3,7,0,0,48,112,255] 9 0 ?_ (fun bs8 G7=>?_)
  refine aT (aJ (aB hF rfl (fun h13 hF=>?_) (fun h13 hF=>?_)))
  ·exact bI
  obtain⟨v14,h15,hF⟩:=aM hF
  refine go ?_ ?_
  exact aF (fun a w hh=>⟨v14,hF,dI [] hh⟩)
 refine aV ?_
 obtain rfl:=eP hF
 exact nK Jj5 ⟨hRl4,rfl,rfl⟩ []
def wW (K:Nat) (a0:aE) (a1:aE):Option Bool:=
 bif(a0.neg==a1.neg) then((rT K a0.d a1.d).bind fun v4=>some v4) else(some false)
theorem aDw {K:Nat} {a0:aE} {a1:aE} {r:Bool} (hF:wW K a0 a1=some r):Ct Tryz.prog 127 [.va (aE.e a0),.va (aE.e a1)] (.vc (pB r)):=by
 unfold wW at hF
 refine aA Tryz.func127 rfl (by kernel_rfl) Tryz.ntmps127 rfl (fun w0 M0=>?_)
 refine aC (aH (bV rfl rfl trivial (fun b1=>?_)))
 refine bV rfl rfl trivial (fun b2=>?_)
 refine go ?_ ?_
 refine aI (aNg rfl Tryz.underlying4) zU2 ?_
 refine dS ?_
 refine cC hF (fun h3 hF=>?_) (fun h3 hF=>?_)
 ·obtain⟨v4,h5,hF⟩:=aW hF aDq
  exact bI
 exact bI
abbrev aKs:Nat:=76
def aBQ (K:Nat) (a0:aK) (a1:aK):Option Bool:=
 (wW K a0.p a1.p).bind fun v3=>bif v3 then((wW K a0.q a1.q).bind fun v6=>some v6) else(some false)
theorem aJh {K:Nat} {a0:aK} {a1:aK} {r:Bool} (hF:aBQ K a0 a1=some r):Ct Tryz.prog 76 [.va (aK.e a0),.va (aK.e a1)] (.vc (pB r)):=by
 unfold aBQ at hF
 refine aA Tryz.func76 rfl (by kernel_rfl) Tryz.ntmps76 rfl (fun w0 M0=>?_)
 refine aC (aH (bV rfl rfl trivial (fun b1=>?_)))
 refine bV rfl rfl trivial (fun b2=>?_)
 refine go ?_ ?_
 refine aI (aL (.inr rfl)) ⟨k_F _,trivial⟩ ?_
 obtain⟨v3,h4,hF⟩:=aW hF aDw
 refine go ?_ ?_
 refine aI (aIA (cs:=[]) (pre:=[.va (aE.e a0.p),.va (aE.e a1.p)]) rfl h4 rfl) ⟨rfl,rfl,rfl,trivial⟩ ?_
 refine dS ?_
 refine cC hF (fun h5 hF=>?_) (fun h5 hF=>?_)
 ·obtain⟨v6,h7,hF⟩:=aW hF aDw
  refine go ?_ ?_
  refine w8 (aIA (cs:=[]) (pre:=[.va (aE.e a0.q),.va (aE.e a1.q)]) rfl h7 rfl) ⟨rfl,rfl,rfl,trivial⟩ ?_
  exact bI
 exact bI
abbrev aMz:Nat:=78
def aCY (K:Nat) (a0:aK) (a1:aK):Option aK:=
 bif((a1.p.d.length:Int)==0) then(some (⟨(⟨false,([]:List Int)⟩:aE),(⟨false,([]:List Int)⟩:aE)⟩:aK)) else((eV a1).bind fun v7=>(oT v7 a1.p).bind fun v9=>(aBp K a0 v9).bind fun v11=>some v11)
theorem aKe {K:Nat} {a0:aK} {a1:aK} {r:aK} (hF:aCY K a0 a1=some r):Ct Tryz.prog 78 [.va (aK.e a0),.va (aK.e a1)] (.va (aK.e r)):=by
 unfold aCY at hF
 refine aA Tryz.func78 rfl (by kernel_rfl) Tryz.ntmps78 rfl (fun w0 M0=>?_)
 refine aC (aH (bV rfl rfl trivial (fun b1=>?_)))
 refine bV rfl rfl trivial (fun b2=>?_)
 refine aN rfl tyZ42 (fun b3=>?_)
 refine go ?_ ?_
 refine aB hF rfl (fun h4 hF=>?_) (fun h4 hF=>?_)
 ·refine aC (aH (aI (gU (is:=[]) (xs:=[]) (ps:=[]) rfl tyB42 rfl rfl trivial rfl) trivial ?_))
  exact bI
 obtain⟨v7,h8,hF⟩:=aW hF mA
 obtain⟨v9,h10,hF⟩:=aW hF w9
 obtain⟨v11,h12,hF⟩:=aW hF aGG
 refine go ?_ ?_
 refine dr [0,0,2,0,8,30,63,127] 7 1 ?_ (fun bs6 G5=>?_)
 exact bI
abbrev aMD:Nat:=79
def aC0 (K:Nat) (a0:aK) (a1:aK):Option aK:=
 (aBk a1).bind fun v6=>(aBr K a0 v6).bind fun v8=>some v8
theorem aKD {K:Nat} {a0:aK} {a1:aK} {r:aK} (hF:aC0 K a0 a1=some r):Ct Tryz.prog 79 [.va (aK.e a0),.va (aK.e a1)] (.va (aK.e r)):=by
 unfold aC0 at hF
 refine aA Tryz.func79 rfl (by kernel_rfl) Tryz.ntmps79 rfl (fun w0 M0=>?_)
 refine aC (aH (bV rfl rfl trivial (fun b1=>?_)))
 refine bV rfl rfl trivial (fun b2=>?_)
 refine aN rfl tyZ42 (fun b3=>?_)
 obtain⟨v6,h7,hF⟩:=aW hF aGk
 obtain⟨v8,h9,hF⟩:=aW hF aGm
 refine go ?_ ?_
 refine dr [0,0,2,7,15] 4 1 ?_ (fun bs5 G4=>?_)
 exact bI
abbrev aG0:Nat:=87
def zK (K:Nat) (a0:aK) (a1:aK):Option Int:=
 (zB a0).bind fun v5=>(zB a1).bind fun v7=>bif(v5 != v7) then((m6 v5).bind fun v10=>(m6 v7).bind fun v12=>(mY K v10 v12).bind fun v14=>some v14) else(bif(v5==0) then((m6 v5).bind fun v17=>(m6 v7).bind fun v19=>(mY K v17 v19).bind fun v21=>some v21) else((eV a1).bind fun v25=>(bR K a0.p v25).bind fun v27=>(eV a0).bind fun v29=>(bR K a1.p v29).bind fun v31=>(mY K v27 v31).bind fun v33=>some v33))
theorem aGJ {K:Nat} {a0:aK} {a1:aK} {r:Int} (hF:zK K a0 a1=some r):Ct Tryz.prog 87 [.va (aK.e a0),.va (aK.e a1)] (.vc (pI .i64 r)):=by
 unfold zK at hF
 refine aA Tryz.func87 rfl (by kernel_rfl) Tryz.ntmps87 rfl (fun w0 M0=>?_)
 refine aC (aH (bV rfl rfl trivial (fun b1=>?_)))
 refine bV rfl rfl trivial (fun b2=>?_)
 obtain⟨v5,h6,hF⟩:=aW hF aCx
 obtain⟨v7,h8,hF⟩:=aW hF aCx
 refine go ?_ ?_
 refine dr [0,1,0,7,15,31] 6 0 ?_ (fun bs4 G3=>?_)
 refine go ?_ ?_
 refine cC hF (fun h9 hF=>?_) (fun h9 hF=>?_)
 ·refine go ?_ ?_
  refine fV rfl ?_
  obtain⟨v10,h11,hF⟩:=aW hF tO
  obtain⟨v12,h13,hF⟩:=aW hF tO
  obtain⟨v14,h15,hF⟩:=aW hF xT
  exact bI
 refine go ?_ ?_
 refine aB hF rfl (fun h16 hF=>?_) (fun h16 hF=>?_)
 ·obtain⟨v17,h18,hF⟩:=aW hF tO
  obtain⟨v19,h20,hF⟩:=aW hF tO
  obtain⟨v21,h22,hF⟩:=aW hF xT
  exact bI
 obtain⟨v25,h26,hF⟩:=aW hF mA
 obtain⟨v27,h28,hF⟩:=aW hF iJ
 obtain⟨v29,h30,hF⟩:=aW hF mA
 obtain⟨v31,h32,hF⟩:=aW hF iJ
 obtain⟨v33,h34,hF⟩:=aW hF xT
 refine go ?_ ?_
 refine dr [0,1,0,4,15,0,32,0,159,511,1023,2047] 12 0 ?_ (fun bs24 G23=>?_)
 refine aT (aJ ?_)
 exact bI
abbrev aEg:Nat:=90
def wD (K:Nat) (a0:aK) (a1:aK):Option aK:=
 (eY K a1).bind fun v6=>(eW K a0.p v6).bind fun v8=>(eY K a0).bind fun v10=>(eW K v10 a1.p).bind fun v12=>(gQ K v8 v12).bind fun v14=>some v14
theorem aDQ {K:Nat} {a0:aK} {a1:aK} {r:aK} (hF:wD K a0 a1=some r):Ct Tryz.prog 90 [.va (aK.e a0),.va (aK.e a1)] (.va (aK.e r)):=by
 unfold wD at hF
 refine aA Tryz.func90 rfl (by kernel_rfl) Tryz.ntmps90 rfl (fun w0 M0=>?_)
 refine aC (aH (bV rfl rfl trivial (fun b1=>?_)))
 refine bV rfl rfl trivial (fun b2=>?_)
 refine aN rfl tyZ42 (fun b3=>?_)
 obtain⟨v6,h7,hF⟩:=aW hF kF
 obtain⟨v8,h9,hF⟩:=aW hF kD
 obtain⟨v10,h11,hF⟩:=aW hF kF
 obtain⟨v12,h13,hF⟩:=aW hF kD
 obtain⟨v14,h15,hF⟩:=aW hF tY
 refine go ?_ ?_
 refine dr [0,1,0,4,15,0,63,0,128,511,1023,2047] 11 1 ?_ (fun bs5 G4=>?_)
 exact bI
abbrev aIS:Nat:=93
def jK (K:Nat) (a0:aK):Option Bool:=
 (jE K a0.p).bind fun v2=>bif(!v2) then(some false) else((jE K a0.q).bind fun v5=>bif(!v5) then(some false) else(bif a0.q.neg then(some false) else((u7 a0.q).bind fun v9=>bif v9 then(some false) else(bif((a0.q.d.length:Int)==0) then(some true) else((vM K a0.p a0.q).bind fun v13=>(u7 v13).bind fun v15=>some v15)))))
theorem aEk {K:Nat} {a0:aK} {r:Bool} (hF:jK K a0=some r):Ct Tryz.prog 93 [.va (aK.e a0)] (.vc (pB r)):=by
 unfold jK at hF
 refine aA Tryz.func93 rfl (by kernel_rfl) Tryz.ntmps93 rfl (fun w0 M0=>?_)
 refine aC (aH (bV rfl rfl trivial (fun b1=>?_)))
 refine go ?_ ?_
 refine aG ?_
 obtain⟨v2,h3,hF⟩:=aW hF aBl
 refine go ?_ ?_
 refine cC hF (fun h4 hF=>?_) (fun h4 hF=>?_)
 ·refine go ?_ ?_
  refine fV rfl ?_
  exact bI
 obtain⟨v5,h6,hF⟩:=aW hF aBl
 refine go ?_ ?_
 refine cC hF (fun h7 hF=>?_) (fun h7 hF=>?_)
 ·refine go ?_ ?_
  refine fV rfl ?_
  exact bI
 refine go ?_ ?_
 refine cC hF (fun h8 hF=>?_) (fun h8 hF=>?_)
 ·refine go ?_ ?_
  refine fV rfl ?_
  exact bI
 obtain⟨v9,h10,hF⟩:=aW hF zU
 refine go ?_ ?_
 refine aB hF rfl (fun h11 hF=>?_) (fun h11 hF=>?_)
 ·exact bI
 refine go ?_ ?_
 refine aB hF rfl (fun h12 hF=>?_) (fun h12 hF=>?_)
 ·exact bI
 obtain⟨v13,h14,hF⟩:=aW hF aCB
 obtain⟨v15,h16,hF⟩:=aW hF zU
 exact bI
abbrev aDg:Nat:=101
def bP (K:Nat) (a0:aK):Option Bool:=
 (eF K a0.p).bind fun v2=>bif(!v2) then(some false) else((eF K a0.q).bind fun v5=>bif(!v5) then(some false) else(bif a0.q.neg then(some false) else((k7 a0.q).bind fun v9=>bif v9 then(some false) else(bif((a0.q.d.length:Int)==0) then(some true) else((qB K a0.p a0.q).bind fun v13=>(k7 v13).bind fun v15=>some v15)))))
theorem zX {K:Nat} {a0:aK} {r:Bool} (hF:bP K a0=some r):Ct Tryz.prog 101 [.va (aK.e a0)] (.vc (pB r)):=by
 unfold bP at hF
 refine aA Tryz.func101 rfl (by kernel_rfl) Tryz.ntmps101 rfl (fun w0 M0=>?_)
 refine aC (aH (bV rfl rfl trivial (fun b1=>?_)))
 obtain⟨v2,h3,hF⟩:=aW hF zN
 refine go ?_ ?_
 refine cC hF (fun h4 hF=>?_) (fun h4 hF=>?_)
 ·refine go ?_ ?_
  refine fV rfl ?_
  exact bI
 obtain⟨v5,h6,hF⟩:=aW hF zN
 refine go ?_ ?_
 refine cC hF (fun h7 hF=>?_) (fun h7 hF=>?_)
 ·refine go ?_ ?_
  refine fV rfl ?_
  exact bI
 refine go ?_ ?_
 refine cC hF (fun h8 hF=>?_) (fun h8 hF=>?_)
 ·refine go ?_ ?_
  refine fV rfl ?_
  exact bI
 obtain⟨v9,h10,hF⟩:=aW hF vB
 refine go ?_ ?_
 refine aB hF rfl (fun h11 hF=>?_) (fun h11 hF=>?_)
 ·exact bI
 refine go ?_ ?_
 refine aB hF rfl (fun h12 hF=>?_) (fun h12 hF=>?_)
 ·exact bI
 obtain⟨v13,h14,hF⟩:=aW hF aAM
 obtain⟨v15,h16,hF⟩:=aW hF vB
 exact bI
end Go.Proofs.YtolfcbpgmfbgmaaGreat
set_option linter.unusedVariables false
set_option maxRecDepth 100000
namespace Go.Proofs.YtolfcbpgmfbgmaaGreat
end Go.Proofs.YtolfcbpgmfbgmaaGreat
set_option linter.unusedVariables false
namespace Go.Proofs.YtolfcbpgmfbgmaaGreat
open Rat
theorem Z0:Z 0=(⟨false,[]⟩:aE):=by rw [show(0:Int)=((0:Nat):Int) from rfl,←o5];rfl
theorem aK4 {x y:Int} (h:Z x=Z y):x=y:=by
 have h1:decide (x<0)=decide (y<0):=congrArg aE.neg h
 have h2:bO x.natAbs=bO y.natAbs:=congrArg aE.d h
 have h3:(x.natAbs:Int)=y.natAbs:=by rw [←dJ,←dJ,h2]
 have h4:(x<0)↔(y<0):=by simpa using h1
 omega
theorem aDZ {x:Int}:(((Z x).d.length:Int)==0)=decide (x=0):=by
 rw [uM]
 by_cases h:x=0
 ·rw [dT h];subst h;rw [show Int.natAbs 0=0 from rfl,yE];rfl
 ·have:dl x.natAbs≠0:=by rw [Ne,xP];omega
  rw [dF h,qF (by omega)]
theorem dl1:dl 1=1:=by
 unfold dl;rw [aL2 (by decide) (by decide)];rfl
theorem aCO (x:Int):u7 (Z x)=some (decide (x=1)):=by
 unfold u7
 rw [uA]
 by_cases h:x<0
 ·rw [dT h,dF (p:=x=1) (by omega)];simp
 ·rw [dF h]
  simp only [Bool.not_false,bS,Z_d]
  by_cases h1:(bO x.natAbs).length=1
  ·obtain⟨a1,a2⟩:=aCA h1
   have e:=bZ (xs:=bO x.natAbs) (i:=0) (by omega)
   rw [a1] at e
   simp only [Int.natCast_zero] at e
   rw [qT (by omega),bS,e,oB]
   by_cases h2:x=1
   ·rw [dT h2,qT (by omega)]
   ·rw [dF h2,qF (by omega)]
  ·rw [qF (by omega),bM,dF]
   intro e;subst e;exact h1 dl1
theorem aEE (x:Int):k7 (Z x)=some (decide (x=1)):=by
 unfold k7
 rw [uA]
 by_cases h:x<0
 ·rw [dT h,dF (p:=x=1) (by omega)];rfl
 ·rw [dF h]
  simp only [bM,Z_d]
  by_cases h1:(bO x.natAbs).length=1
  ·obtain⟨a1,a2⟩:=aCA h1
   have e:=bZ (xs:=bO x.natAbs) (i:=0) (by omega)
   rw [a1] at e
   simp only [Int.natCast_zero] at e
   rw [nF (by omega),bM,e,oB]
   by_cases h2:x=1
   ·rw [dT h2,qT (by omega)]
   ·rw [dF h2,qF (by omega)]
  ·rw [nT (by omega),bS,dF]
   intro e;subst e;exact h1 dl1
theorem aRr {p q:Int} (hq:0<q) (hg:Int.gcd p q=1):(p/. q).num=p∧(p/. q).den=q.natAbs:=by
 rw [Rat.num_divInt,Rat.den_divInt,Int.gcd_comm,hg,if_neg (by omega),Int.sign_eq_one_of_pos hq]
 simp
theorem aFW {p q:Int} (hq:0<q) (hg:Int.gcd p q=1):Qr (p/. q)=⟨Z p,if q=1 then⟨false,[]⟩ else Z q⟩:=by
 obtain⟨h1,h2⟩:=aRr hq hg
 rw [aDX,h1,h2]
 by_cases h:q=1
 ·rw [if_pos h,if_pos (by omega)]
 ·rw [if_neg h,if_neg (by omega),show(q.natAbs:Int)=q by omega]
theorem aBJ {p q:Int} (hq:q≠0) (hg:Int.gcd p q=1):oT (Z p) (Z q)=some (Qr (p/. q)):=by
 unfold oT
 rw [uA]
 by_cases h:q<0
 ·rw [dT h]
  simp only [bS,aLA,oB,aCO]
  rw [←Rat.neg_divInt_neg,aFW (by omega) (by simpa using hg)]
  by_cases h1:-q=1
  ·rw [dT h1,if_pos h1];rfl
  ·rw [dF h1,if_neg h1];rfl
 ·rw [dF h]
  simp only [bM,aCO,oB]
  rw [aFW (by omega) hg]
  by_cases h1:q=1
  ·rw [dT h1,if_pos h1];rfl
  ·rw [dF h1,if_neg h1];rfl
theorem aHw {p q:Int} (hq:q≠0):∃a b:Int,∃g:Nat,Int.gcd p q=g∧0<g∧p=a*g∧q=b*g∧Int.gcd a b=1∧b≠0∧p/(g:Int)=a∧q/(g:Int)=b:=by
 have hg:0<Int.gcd p q:=Int.gcd_pos_of_ne_zero_right p hq
 obtain⟨a,ha⟩:=Int.gcd_dvd_left (a:=p) (b:=q)
 obtain⟨b,hb⟩:=Int.gcd_dvd_right (a:=p) (b:=q)
 have hgz:((Int.gcd p q:Nat):Int)≠0:=by omega
 have q1:p/((Int.gcd p q:Nat):Int)=a:=by
  have:((Int.gcd p q:Nat):Int)*a/((Int.gcd p q:Nat):Int)=a:=Int.mul_ediv_cancel_left _ hgz
  rwa [←ha] at this
 have q2:q/((Int.gcd p q:Nat):Int)=b:=by
  have:((Int.gcd p q:Nat):Int)*b/((Int.gcd p q:Nat):Int)=b:=Int.mul_ediv_cancel_left _ hgz
  rwa [←hb] at this
 refine⟨a,b,Int.gcd p q,rfl,hg,by rw [Int.mul_comm];exact ha,by rw [Int.mul_comm];exact hb,?_,?_,q1,q2⟩
 ·have h:=Int.gcd_mul_left (Int.gcd p q) a b
  rw [←ha,←hb] at h
  simp only [Int.natAbs_natCast] at h
  have:Int.gcd p q*1=Int.gcd p q*Int.gcd a b:=by omega
  exact(Nat.eq_of_mul_eq_mul_left hg this).symm
 ·intro e;rw [e] at hb;simp at hb;exact hq hb
theorem aBO:Qr 0=⟨⟨false,[]⟩,⟨false,[]⟩⟩:=Qr0
theorem aNU {p q:Int} (hq:q≠0):dl (Int.gcd p q)≤dl q.natAbs:=sW (Nat.le_of_dvd (by omega) (Nat.gcd_dvd_right _ _))
theorem aEw {p q:Int} (hq:q≠0) (hp1:dl p.natAbs≤20000000000) (hq1:dl q.natAbs≤20000000000):Ev (fun K=>kJ K (Z p) (Z q)) (Qr (p/. q)):=by
 unfold kJ
 simp only [aDZ,dF hq,bM]
 by_cases hp:p=0
 ·subst hp
  simp only [Rat.zero_divInt,aBO]
  exact Ev.pure _
 ·simp only [dF hp,bM]
  obtain⟨a,b,g,h1,h2,h3,h4,h5,h6,h7,h8⟩:=aHw (p:=p) hq
  have hgl:=aNU (p:=p) hq
  rw [h1] at hgl
  refine Ev.bind (aK5 (by omega) (by omega)) ?_
  rw [h1]
  simp only [aCO,oB]
  have he:p/. q=a/. b:=by
   rw [h3,h4]
   exact Rat.divInt_mul_right (by omega)
  by_cases hg:g=1
  ·have e:(!decide ((g:Int)=1))=false:=by rw [dT (by omega)];rfl
   simp only [e,bM]
   rw [aBJ hq (by rw [h1];exact hg)]
   exact Ev.pure _
  ·have e:(!decide ((g:Int)=1))=true:=by rw [dF (by omega)];rfl
   simp only [e,bS]
   refine Ev.bind (aLU (by omega) (by omega) (by simp;omega)) (Ev.bind (aLU (by omega) (by omega) (by simp;omega)) ?_)
   simp only [h7,h8]
   rw [aBJ h6 h5,he]
   exact Ev.pure _
theorem aMt (p:Int):Ev (fun K=>kJ K (Z p) (Z 0)) (Qr 0):=by
 unfold kJ
 simp only [aDZ,aBO]
 exact Ev.pure _
theorem aCV {p q:Int} (hq:q≠0) (hp1:dl p.natAbs≤20000000000) (hq1:dl q.natAbs≤20000000000):Ev (fun K=>gQ K (Z p) (Z q)) (Qr (p/. q)):=by
 unfold gQ
 simp only [aDZ,dF hq,bM]
 by_cases hp:p=0
 ·subst hp
  simp only [Rat.zero_divInt,aBO]
  exact Ev.pure _
 ·simp only [dF hp,bM]
  obtain⟨a,b,g,h1,h2,h3,h4,h5,h6,h7,h8⟩:=aHw (p:=p) hq
  have hgl:=aNU (p:=p) hq
  rw [h1] at hgl
  have hal:dl a.natAbs≤dl p.natAbs:=sW (by
   rw [h3,Int.natAbs_mul,Int.natAbs_natCast]
   exact Nat.le_mul_of_pos_right _ h2)
  have hbl:dl b.natAbs≤dl q.natAbs:=sW (by
   rw [h4,Int.natAbs_mul,Int.natAbs_natCast]
   exact Nat.le_mul_of_pos_right _ h2)
  refine Ev.bind (aJi (by omega) (by omega)) ?_
  rw [h1]
  have he:p/. q=a/. b:=by
   rw [h3,h4]
   exact Rat.divInt_mul_right (by omega)
  refine Ev.bind (aFY (by omega) (by omega) (by simp;omega)) (Ev.bind (aFY (by omega) (by omega) (by simp;omega)) ?_)
  simp only [h7,h8,uA]
  rw [he]
  by_cases hb:b<0
  ·simp only [dT hb,bS]
   refine Ev.bind (aFO a (by omega)) (Ev.bind (aFO b (by omega)) ?_)
   simp only [aEE,oB]
   rw [←Rat.neg_divInt_neg,aFW (by omega) (by simpa using h5)]
   by_cases h9:-b=1
   ·simp only [dT h9,if_pos h9,bS];exact Ev.pure _
   ·simp only [dF h9,if_neg h9,bM];exact Ev.pure _
  ·simp only [dF hb,bM,aEE,oB]
   rw [aFW (by omega) h5]
   by_cases h9:b=1
   ·simp only [dT h9,if_pos h9,bS];exact Ev.pure _
   ·simp only [dF h9,if_neg h9,bM];exact Ev.pure _
theorem aGK (p:Int):Ev (fun K=>gQ K (Z p) (Z 0)) (Qr 0):=by
 unfold gQ
 simp only [aDZ,aBO]
 exact Ev.pure _
theorem Qp (a:Rat):(Qr a).p=Z a.num:=by rw [aDX]
theorem Qq (a:Rat):(Qr a).q=if a.den=1 then⟨false,[]⟩ else Z a.den:=by rw [aDX]
theorem aIn (a:Rat):(((Qr a).q.d.length:Int)==0)=decide (a.den=1):=by
 rw [Qq]
 by_cases h:a.den=1
 ·rw [if_pos h,dT h];rfl
 ·rw [if_neg h,dF h,aDZ,dF]
  have:=a.den_nz
  omega
theorem aKq {a b:Rat} (h:Qr a=Qr b):a=b:=by
 have h1:Z a.num=Z b.num:=by rw [←Qp,←Qp,h]
 have h2:=congrArg aK.q h
 rw [Qq,Qq] at h2
 have h3:=aK4 h1
 have h4:a.den=b.den:=by
  by_cases ha:a.den=1
  ·by_cases hb:b.den=1
   ·omega
   ·rw [if_pos ha,if_neg hb,←Z0] at h2
    have:=aK4 h2
    have:=b.den_nz
    omega
  ·by_cases hb:b.den=1
   ·rw [if_neg ha,if_pos hb,←Z0] at h2
    have:=aK4 h2
    have:=a.den_nz
    omega
   ·rw [if_neg ha,if_neg hb] at h2
    have:=aK4 h2
    omega
 exact Rat.ext h3 h4
theorem aEj (a:Rat):eV (Qr a)=some (Z a.den):=by
 unfold eV aCZ
 rw [aIn]
 by_cases h:a.den=1
 ·rw [dT h,bS,aGa (by omega),oB,oB,h];rfl
 ·rw [dF h,bM,Qq,if_neg h]
theorem zM (a:Rat):Ev (fun K=>eY K (Qr a)) (Z a.den):=by
 unfold eY
 rw [aIn]
 by_cases h:a.den=1
 ·simp only [dT h,bS]
  rw [h]
  exact Ev.bind (aB0 (by omega)) (Ev.pure _)
 ·simp only [dF h,bM]
  rw [Qq,if_neg h]
  exact Ev.pure _
theorem uN {a:Rat} (h:qs a=true):dl a.num.natAbs≤40000000∧dl a.den≤40000000:=by
 unfold qs at h
 simp only [Bool.and_eq_true,Nat.ble_eq] at h
 have h1:=aM7 a.num.natAbs
 have h2:=aM7 a.den
 omega
theorem aIp (a b:Rat):a+b=(a.num*b.den+b.num*a.den)/. (a.den*b.den):=by
 have ha:=a.den_nz
 have hb:=b.den_nz
 conv=>lhs;rw [←Rat.num_divInt_den a,←Rat.num_divInt_den b]
 exact Rat.divInt_add_divInt _ _ (by omega) (by omega)
theorem aGB (a b:Rat):a*b=(a.num*b.num)/. (a.den*b.den):=by
 conv=>lhs;rw [←Rat.num_divInt_den a,←Rat.num_divInt_den b]
 exact Rat.divInt_mul_divInt _ _
theorem aOi (n:Int):Qr (n/. 1)=⟨Z n,⟨false,[]⟩⟩:=by
 rw [aFW (by omega) (by simp)];rfl
theorem aBn {a b:Rat} (ha:qs a=true) (hb:qs b=true):dl (a.num*b.den).natAbs≤80000000∧dl (b.num*a.den).natAbs≤80000000∧dl (a.num*b.den+b.num*a.den).natAbs≤80000001∧dl ((a.den:Int)*b.den).natAbs≤80000000∧dl (a.num*b.num).natAbs≤80000000∧((a.den:Int)*b.den)≠0:=by
 obtain⟨a1,a2⟩:=uN ha
 obtain⟨b1,b2⟩:=uN hb
 have m1:=aEZ a.num.natAbs b.den
 have m2:=aEZ b.num.natAbs a.den
 have m3:=aEZ a.den b.den
 have m4:=aEZ a.num.natAbs b.num.natAbs
 have e1:(a.num*b.den).natAbs=a.num.natAbs*b.den:=by rw [Int.natAbs_mul,Int.natAbs_natCast]
 have e2:(b.num*a.den).natAbs=b.num.natAbs*a.den:=by rw [Int.natAbs_mul,Int.natAbs_natCast]
 have e3:((a.den:Int)*b.den).natAbs=a.den*b.den:=by rw [Int.natAbs_mul,Int.natAbs_natCast,Int.natAbs_natCast]
 have e4:(a.num*b.num).natAbs=a.num.natAbs*b.num.natAbs:=Int.natAbs_mul _ _
 have hs:dl (a.num*b.den+b.num*a.den).natAbs≤80000001:=by
  have h1:dl ((a.num*b.den).natAbs+(b.num*a.den).natAbs)≤80000000+1:=aRu (by rw [e1];omega) (by rw [e2];omega)
  exact Nat.le_trans (sW (Int.natAbs_add_le _ _)) h1
 refine⟨by rw [e1];omega,by rw [e2];omega,hs,by rw [e3];omega,by rw [e4];omega,?_⟩
 have h1:=a.den_nz
 have h2:=b.den_nz
 exact Int.mul_ne_zero (by omega) (by omega)
theorem aK8 {a b:Rat} (ha:qs a=true) (hb:qs b=true):Ev (fun K=>aBr K (Qr a) (Qr b)) (Qr (a+b)):=by
 obtain⟨a1,a2⟩:=uN ha
 obtain⟨b1,b2⟩:=uN hb
 obtain⟨c1,c2,c3,c4,c5,c6⟩:=aBn ha hb
 have key:Ev (fun K=>(eV (Qr a)).bind fun v12=>(eV (Qr b)).bind fun v14=>(bR K (Z a.num) v14).bind fun v18=>(bR K (Z b.num) v12).bind fun v20=>(oQ K v18 v20).bind fun v22=>(bR K v12 v14).bind fun v24=>(kJ K v22 v24).bind fun v26=>some v26) (Qr (a+b)):=by
  simp only [aEj,oB]
  refine Ev.bind (aA0 (by simp;omega)) (Ev.bind (aA0 (by simp;omega)) (Ev.bind (aLL (by omega) (by omega)) (Ev.bind (aA0 (by simp;omega)) (Ev.bind (aEw c6 (by omega) (by omega)) ?_))))
  rw [←aIp]
  exact Ev.pure _
 have key2:Ev (fun K=>bif decide (a.num=0) then some (Qr b) else bif decide (b.num=0) then some (Qr a) else(eV (Qr a)).bind fun v12=>(eV (Qr b)).bind fun v14=>(bR K (Z a.num) v14).bind fun v18=>(bR K (Z b.num) v12).bind fun v20=>(oQ K v18 v20).bind fun v22=>(bR K v12 v14).bind fun v24=>(kJ K v22 v24).bind fun v26=>some v26) (Qr (a+b)):=by
  by_cases h1:a.num=0
  ·simp only [dT h1,bS]
   rw [Rat.num_eq_zero.1 h1,Rat.zero_add]
   exact Ev.pure _
  ·simp only [dF h1,bM]
   by_cases h2:b.num=0
   ·simp only [dT h2,bS]
    rw [Rat.num_eq_zero.1 h2,Rat.add_zero]
    exact Ev.pure _
   ·simp only [dF h2,bM]
    exact key
 unfold aBr
 simp only [aIn,Qp,aDZ]
 by_cases h1:a.den=1
 ·simp only [dT h1,bS]
  by_cases h2:b.den=1
  ·simp only [dT h2,bS]
   refine Ev.bind (aLL (by omega) (by omega)) ?_
   have:a+b=(a.num+b.num)/. 1:=by
    rw [aIp,h1,h2];simp
   rw [this,aOi]
   exact Ev.pure _
  ·simp only [dF h2,bM]
   exact key2
 ·simp only [dF h1,bM]
  exact key2
theorem aIE {n:Int} {d e:Nat} (h:(n/. (d:Int)).den=e) (hd:d≠0):e∣d:=by
 rw [Rat.den_divInt,if_neg (by omega)] at h
 rw [←h]
 simp only [Int.natAbs_natCast]
 exact Nat.div_dvd_of_dvd (by rw [Int.gcd_comm];exact Nat.gcd_dvd_right _ _)
theorem aH7 {n:Int} {d:Nat} (hd:d≠0):(n/. (d:Int)).num.natAbs∣n.natAbs:=by
 rw [Rat.num_divInt,Int.sign_eq_one_of_pos (by omega),Int.one_mul]
 rw [Int.gcd_comm]
 obtain⟨c,hc⟩:=Int.gcd_dvd_left (a:=n) (b:=(d:Int))
 have hg:0<Int.gcd n d:=Int.gcd_pos_of_ne_zero_right n (by omega)
 generalize Int.gcd n d=g at *
 have e:n/(g:Int)=c:=by rw [hc];exact Int.mul_ediv_cancel_left _ (by omega)
 rw [e,hc,Int.natAbs_mul]
 exact Nat.dvd_mul_left _ _
theorem aPe {a b:Rat}:Int.gcd ((a.num/. b.den).num*(b.num/. a.den).num) (((a.num/. b.den).den:Int)*(b.num/. a.den).den)=1:=by
 have ha:=a.den_nz
 have hb:=b.den_nz
 have h1:=(a.num/. b.den).reduced
 have h2:=(b.num/. a.den).reduced
 have ra:=a.reduced
 have rb:=b.reduced
 have n1:(a.num/. (b.den:Int)).num.natAbs∣a.num.natAbs:=aH7 hb
 have n2:(b.num/. (a.den:Int)).num.natAbs∣b.num.natAbs:=aH7 ha
 have d1:(a.num/. (b.den:Int)).den∣b.den:=aIE rfl hb
 have d2:(b.num/. (a.den:Int)).den∣a.den:=aIE rfl ha
 have x1:Nat.Coprime (a.num/. (b.den:Int)).num.natAbs (b.num/. (a.den:Int)).den:=Nat.Coprime.coprime_dvd_left n1 (Nat.Coprime.coprime_dvd_right d2 ra)
 have x2:Nat.Coprime (b.num/. (a.den:Int)).num.natAbs (a.num/. (b.den:Int)).den:=Nat.Coprime.coprime_dvd_left n2 (Nat.Coprime.coprime_dvd_right d1 rb)
 show Nat.gcd _ _=1
 rw [Int.natAbs_mul,Int.natAbs_mul,Int.natAbs_natCast,Int.natAbs_natCast]
 exact Nat.Coprime.mul_left (Nat.Coprime.mul_right h1 x1) (Nat.Coprime.mul_right x2 h2)
theorem aL5 {n:Int} {d:Nat} (hd:d≠0):dl (n/. (d:Int)).num.natAbs≤dl n.natAbs∧dl (n/. (d:Int)).den≤dl d:=by
 constructor
 ·by_cases h:n=0
  ·subst h;rw [Rat.zero_divInt];exact Nat.le_refl _
  ·exact sW (Nat.le_of_dvd (by omega) (aH7 hd))
 ·exact sW (Nat.le_of_dvd (by omega) (aIE rfl hd))
theorem aMx {a b:Rat} (ha:qs a=true) (hb:qs b=true):Ev (fun K=>(eV (Qr b)).bind fun v12=>(kJ K (Z a.num) v12).bind fun v14=>(eV (Qr a)).bind fun v16=>(kJ K (Z b.num) v16).bind fun v18=>(bR K v14.p v18.p).bind fun v22=>(eV v14).bind fun v24=>(eV v18).bind fun v26=>(bR K v24 v26).bind fun v28=>(oT v22 v28).bind fun v30=>some v30) (Qr (a*b)):=by
 obtain⟨a1,a2⟩:=uN ha
 obtain⟨b1,b2⟩:=uN hb
 have ha0:=a.den_nz
 have hb0:=b.den_nz
 have p1:=aL5 (n:=a.num) hb0
 have p2:=aL5 (n:=b.num) ha0
 simp only [aEj,oB]
 refine Ev.bind (aEw (by omega) (by omega) (by simp;omega)) (Ev.bind (aEw (by omega) (by omega) (by simp;omega)) ?_)
 simp only [Qp]
 refine Ev.bind (aA0 (by omega)) ?_
 simp only [aEj,oB]
 refine Ev.bind (aA0 (by rw [Int.natAbs_natCast,Int.natAbs_natCast];omega)) ?_
 have e1:=(a.num/. (b.den:Int)).den_nz
 have e2:=(b.num/. (a.den:Int)).den_nz
 rw [aBJ (Int.mul_ne_zero (by omega) (by omega)) aPe,oB,←aGB]
 have:a.num/. (b.den:Int)*(b.num/. (a.den:Int))=a*b:=by
  rw [Rat.divInt_mul_divInt,aGB,Int.mul_comm (b.den:Int)]
 rw [this]
 exact Ev.pure _
theorem aKM {a b:Rat} (ha:qs a=true) (hb:qs b=true):Ev (fun K=>aBp K (Qr a) (Qr b)) (Qr (a*b)):=by
 obtain⟨a1,a2⟩:=uN ha
 obtain⟨b1,b2⟩:=uN hb
 have key:=aMx ha hb
 unfold aBp
 simp only [aIn,Qp,aDZ]
 by_cases h1:a.num=0
 ·simp only [dT h1,bS]
  rw [Rat.num_eq_zero.1 h1,Rat.zero_mul,aBO]
  exact Ev.pure _
 ·simp only [dF h1,bM]
  by_cases h2:b.num=0
  ·simp only [dT h2,bS]
   rw [Rat.num_eq_zero.1 h2,Rat.mul_zero,aBO]
   exact Ev.pure _
  ·simp only [dF h2,bM]
   by_cases h3:a.den=1
   ·simp only [dT h3,bS]
    by_cases h4:b.den=1
    ·simp only [dT h4,bS]
     refine Ev.bind (aA0 (by omega)) ?_
     have:a*b=(a.num*b.num)/. 1:=by rw [aGB,h3,h4];rfl
     rw [this,aOi]
     exact Ev.pure _
    ·simp only [dF h4,bM]
     exact key
   ·simp only [dF h3,bM]
    exact key
theorem aL6 (a:Rat):aBk (Qr a)=some (Qr (-a)):=by
 unfold aBk
 rw [Qp,aLA,oB]
 congr 1
 rw [aDX (-a),Rat.neg_num,Rat.neg_den,Qq]
theorem aOf {a:Rat} (h:qs a=true):qs (-a)=true:=by
 unfold qs at *;rw [Rat.neg_num,Rat.neg_den,Int.natAbs_neg];exact h
theorem aPt {a b:Rat} (ha:qs a=true) (hb:qs b=true):Ev (fun K=>aC0 K (Qr a) (Qr b)) (Qr (a-b)):=by
 unfold aC0
 simp only [aL6,oB]
 refine Ev.bind (aK8 ha (aOf hb)) ?_
 rw [Rat.sub_eq_add_neg]
 exact Ev.pure _
theorem aJC (a:Rat):zB (Qr a)=some a.num.sign:=by
 unfold zB
 rw [Qp,aNt];rfl
theorem aFG {b:Rat} (h:b.num≠0):b⁻¹=(b.den:Int)/. b.num:=Rat.inv_def b
theorem aRd {b:Rat} (hb:qs b=true):qs (b⁻¹)=true:=by
 by_cases h:b.num=0
 ·rw [Rat.num_eq_zero.1 h,Rat.inv_zero];decide
 ·have hc:Nat.gcd b.num.natAbs b.den=1:=b.reduced
  rw [aFG h]
  unfold qs at *
  have e1:((b.den:Int)/. b.num).num.natAbs=b.den:=by
   rw [Rat.num_divInt]
   have:Int.gcd b.num b.den=1:=hc
   rw [this]
   simp only [Int.natCast_one,Int.ediv_one,Int.natAbs_mul,Int.natAbs_natCast,Int.natAbs_sign_of_ne_zero h,Nat.one_mul]
  have e2:((b.den:Int)/. b.num).den=b.num.natAbs:=by
   rw [Rat.den_divInt,if_neg h]
   have:Int.gcd b.num b.den=1:=hc
   rw [this,Nat.div_one]
  rw [e1,e2,Bool.and_comm]
  exact hb
theorem aPl {a b:Rat} (ha:qs a=true) (hb:qs b=true):Ev (fun K=>aCY K (Qr a) (Qr b)) (Qr (a/b)):=by
 unfold aCY
 simp only [Qp,aDZ]
 by_cases h:b.num=0
 ·simp only [dT h,bS]
  rw [Rat.num_eq_zero.1 h,Rat.div_def,Rat.inv_zero,Rat.mul_zero,aBO]
  exact Ev.pure _
 ·simp only [dF h,bM,aEj,oB]
  have hc:Int.gcd (b.den:Int) b.num=1:=by rw [Int.gcd_comm];exact b.reduced
  rw [aBJ h hc,←aFG h]
  simp only [oB]
  refine Ev.bind (aKM ha (aRd hb)) ?_
  rw [Rat.div_def]
  exact Ev.pure _
theorem aJg (x y:List Int) (hl:x.length=y.length) (hL:x.length≤9000000000000):∀(t i:Nat),i+t=x.length→∀K k,t<k→gY K x y k (i:Int)=some (if x.drop i=y.drop i then .go () else .ret false)
 |0,i,hi,K,k,hk=>by
  obtain⟨k',rfl,_⟩:=aY hk
  have:i=x.length:=by omega
  subst this
  simp only [gY,dF (show¬(x.length:Int)<(x.length:Int) by omega),bM]
  rw [if_pos]
  rw [List.drop_of_length_le (Nat.le_refl _),List.drop_of_length_le (by omega)]
 |t+1,i,hi,K,k,hk=>by
  obtain⟨k',rfl,_⟩:=aY hk
  have e1:decide ((i:Int)<(x.length:Int))=true:=dT (by omega)
  have e2:=bZ (xs:=x) (i:=i) (by omega)
  have e3:=bZ (xs:=y) (i:=i) (by omega)
  have e5:aS ((i:Int)+1)=some ((i+1:Nat):Int):=ckN (m:=0) (by omega) (by omega)
  have dx:x.drop i=x.getD i 0::x.drop (i+1):=by
   rw [List.drop_eq_getElem_cons (by omega)];simp [List.getD_eq_getElem?_getD,show i<x.length by omega]
  have dy:y.drop i=y.getD i 0::y.drop (i+1):=by
   rw [List.drop_eq_getElem_cons (by omega)];simp [List.getD_eq_getElem?_getD,show i<y.length by omega]
  by_cases h:x.getD i 0=y.getD i 0
  ·have ih:=aJg x y hl hL t (i+1) (by omega) K k' (by omega)
   simp only [gY,e1,e2,e3,e5,nF h,bS,bM,oB,ih]
   by_cases hd:x.drop (i+1)=y.drop (i+1)
   ·rw [if_pos hd,if_pos (by rw [dx,dy,h,hd])]
   ·rw [if_neg hd,if_neg (by rw [dx,dy];intro e;exact hd (List.cons.inj e).2)]
  ·simp only [gY,e1,e2,e3,nT h,bS,oB]
   rw [if_neg (by rw [dx,dy];intro e;exact h (List.cons.inj e).1)]
theorem aMy (x y:List Int) (hL:x.length≤9000000000000):Ev (fun K=>rT K x y) (decide (x=y)):=by
 refine⟨x.length+1,fun K hK=>?_⟩
 unfold rT
 by_cases h2:x.length=y.length
 ·have h:=aJg x y h2 hL x.length 0 (by omega) K K (by omega)
  simp only [Int.natCast_zero,List.drop_zero] at h
  simp only [nF (show(x.length:Int)=(y.length:Int) by omega),bM,h,oB]
  by_cases h3:x=y
  ·rw [if_pos h3,dT h3];rfl
  ·rw [if_neg h3,dF h3]
 ·simp only [nT (show(x.length:Int)≠(y.length:Int) by omega),bS]
  rw [dF (by intro e;subst e;exact h2 rfl)]
theorem aG6 (x y:aE) (hL:x.d.length≤9000000000000):Ev (fun K=>wW K x y) (decide (x=y)):=by
 unfold wW
 by_cases h1:x.neg=y.neg
 ·have e1:(x.neg==y.neg)=true:=beq_iff_eq.2 h1
  simp only [e1,bS]
  refine Ev.bind (aMy _ _ hL) ?_
  have:decide (x.d=y.d)=decide (x=y):=by
   by_cases h3:x.d=y.d
   ·rw [dT h3,dT (by cases x;cases y;simp_all)]
   ·rw [dF h3,dF (by intro e;subst e;exact h3 rfl)]
  rw [this]
  exact Ev.pure _
 ·have e1:(x.neg==y.neg)=false:=beq_false_of_ne h1
  simp only [e1,bM]
  rw [dF (by intro e;subst e;exact h1 rfl)]
  exact Ev.pure _
theorem aNR {a:Rat} (h:qs a=true):(Qr a).p.d.length≤9000000000000∧(Qr a).q.d.length≤9000000000000:=by
 obtain⟨a1,a2⟩:=uN h
 rw [Qp,Qq,uM]
 refine⟨by omega,?_⟩
 by_cases h:a.den=1
 ·rw [if_pos h];simp
 ·rw [if_neg h,uM];simp;omega
theorem aJQ (a b:Rat):(bif decide ((Qr a).p=(Qr b).p) then decide ((Qr a).q=(Qr b).q) else false)=decide (a=b):=by
 by_cases h:a=b
 ·subst h;simp
 ·rw [dF h]
  by_cases h1:(Qr a).p=(Qr b).p
  ·rw [dT h1,bS,dF]
   intro h2
   exact h (aKq (by cases hx:Qr a;cases hy:Qr b;rw [hx,hy] at h1 h2;simp_all))
  ·rw [dF h1];rfl
theorem aNq {a b:Rat} (ha:qs a=true) (hb:qs b=true):Ev (fun K=>aBQ K (Qr a) (Qr b)) (decide (a=b)):=by
 obtain⟨l1,l2⟩:=aNR ha
 unfold aBQ
 refine Ev.bind (aG6 _ _ l1) ?_
 rw [←aJQ]
 by_cases h:(Qr a).p=(Qr b).p
 ·simp only [dT h,bS]
  exact Ev.bind (aG6 _ _ l2) (Ev.pure _)
 ·simp only [dF h,bM]
  exact Ev.pure _
theorem aMr {a b:Rat} (ha:qs a=true) (hb:qs b=true):Ev (fun K=>uW K (Qr a) (Qr b)) (decide (a=b)):=by
 obtain⟨l1,l2⟩:=aNR ha
 unfold uW
 refine Ev.bind (aHn _ _ l1) ?_
 rw [←aJQ]
 by_cases h:(Qr a).p=(Qr b).p
 ·simp only [dT h,bS]
  exact Ev.bind (aHn _ _ l2) (Ev.pure _)
 ·simp only [dF h,bM]
  exact Ev.pure _
theorem aJD {a b:Rat} (ha:qs a=true) (hb:qs b=true):Ev (fun K=>s0 K (Qr a) (Qr b)) (Qr (a+b)):=by
 obtain⟨a1,a2⟩:=uN ha
 obtain⟨b1,b2⟩:=uN hb
 obtain⟨c1,c2,c3,c4,c5,c6⟩:=aBn ha hb
 unfold s0
 refine Ev.bind (zM b) ?_
 simp only [Qp]
 refine Ev.bind (zZ (by simp;omega)) (Ev.bind (zM a) (Ev.bind (zZ (by simp;omega)) (Ev.bind (aJW (by omega) (by omega)) (Ev.bind (zM a) (Ev.bind (zM b) (Ev.bind (zZ (by simp;omega)) (Ev.bind (aCV c6 (by omega) (by omega)) ?_)))))))
 rw [←aIp]
 exact Ev.pure _
theorem aNJ {a b:Rat} (ha:qs a=true) (hb:qs b=true):Ev (fun K=>v0 K (Qr a) (Qr b)) (Qr (a*b)):=by
 obtain⟨a1,a2⟩:=uN ha
 obtain⟨b1,b2⟩:=uN hb
 obtain⟨c1,c2,c3,c4,c5,c6⟩:=aBn ha hb
 unfold v0
 simp only [Qp]
 refine Ev.bind (zZ (by omega)) (Ev.bind (zM a) (Ev.bind (zM b) (Ev.bind (zZ (by simp;omega)) (Ev.bind (aCV c6 (by omega) (by omega)) ?_))))
 rw [←aGB]
 exact Ev.pure _
theorem aJT {a:Rat} (ha:qs a=true):Ev (fun K=>tD K (Qr a)) (Qr (-a)):=by
 obtain⟨a1,a2⟩:=uN ha
 unfold tD
 rw [Qp]
 refine Ev.bind (aFO _ (by omega)) ?_
 have:(⟨Z (-a.num),(Qr a).q⟩:aK)=Qr (-a):=by rw [aDX (-a),Rat.neg_num,Rat.neg_den,Qq]
 rw [this]
 exact Ev.pure _
theorem aNG {a b:Rat} (ha:qs a=true) (hb:qs b=true):Ev (fun K=>vY K (Qr a) (Qr b)) (Qr (a-b)):=by
 unfold vY
 refine Ev.bind (aJT hb) (Ev.bind (aJD ha (aOf hb)) ?_)
 rw [Rat.sub_eq_add_neg]
 exact Ev.pure _
theorem aMw {a:Rat} (ha:qs a=true):Ev (fun K=>uY K (Qr a)) a.num.sign:=by
 obtain⟨a1,a2⟩:=uN ha
 unfold uY
 rw [Qp]
 exact Ev.bind (aMo (by omega)) (Ev.pure _)
theorem aNV {a b:Rat} (ha:qs a=true) (hb:qs b=true):Ev (fun K=>wD K (Qr a) (Qr b)) (Qr (a/b)):=by
 obtain⟨a1,a2⟩:=uN ha
 obtain⟨b1,b2⟩:=uN hb
 obtain⟨c1,c2,c3,c4,c5,c6⟩:=aBn ha hb
 have ha0:=a.den_nz
 unfold wD
 refine Ev.bind (zM b) ?_
 simp only [Qp]
 have e4:((a.den:Int)*b.num).natAbs=b.num.natAbs*a.den:=by rw [Int.natAbs_mul,Int.natAbs_natCast,Nat.mul_comm]
 have m4:=aEZ b.num.natAbs a.den
 refine Ev.bind (zZ (by simp;omega)) (Ev.bind (zM a) (Ev.bind (zZ (by simp;omega)) ?_))
 by_cases h:b.num=0
 ·rw [h,Int.mul_zero]
  refine Ev.bind (aGK _) ?_
  rw [Rat.num_eq_zero.1 h,Rat.div_def,Rat.inv_zero,Rat.mul_zero]
  exact Ev.pure _
 ·refine Ev.bind (aCV (Int.mul_ne_zero (by omega) h) (by omega) (by rw [e4];omega)) ?_
  have:(a.num*b.den)/. ((a.den:Int)*b.num)=a/b:=by
   rw [Rat.div_def,aFG h]
   conv=>rhs;rw [←Rat.num_divInt_den a]
   rw [Rat.divInt_mul_divInt]
  rw [this]
  exact Ev.pure _
theorem aQS {p q:Int} (hp:-9223372036854775808≤p∧p≤9223372036854775807) (hq:-9223372036854775808≤q∧q≤9223372036854775807):Ev (fun K=>aEG K p q) (Qr ((p:Rat)/q)):=by
 have hs:∀n:Int,-9223372036854775808≤n∧n≤9223372036854775807→dl n.natAbs≤3:=fun n h=>aDt (by
  have:PB 3=1000000000000000000000000000:=by decide
  omega)
 have h1:=hs p hp
 have h2:=hs q hq
 unfold aEG
 simp only [aGa hp,aGa hq,oB]
 rw [←Rat.divInt_eq_div]
 by_cases h:q=0
 ·subst h
  rw [Rat.divInt_zero]
  exact Ev.bind (aMt p) (Ev.pure _)
 ·exact Ev.bind (aEw h (by omega) (by omega)) (Ev.pure _)
theorem aK7 {p q:Int} (hp:-9223372036854775808≤p∧p≤9223372036854775807) (hq:-9223372036854775808≤q∧q≤9223372036854775807):Ev (fun K=>oE K p q) (Qr ((p:Rat)/q)):=by
 have hs:∀n:Int,-9223372036854775808≤n∧n≤9223372036854775807→dl n.natAbs≤3:=fun n h=>aDt (by
  have:PB 3=1000000000000000000000000000:=by decide
  omega)
 have h1:=hs p hp
 have h2:=hs q hq
 unfold oE
 refine Ev.bind (aB0 hp) (Ev.bind (aB0 hq) ?_)
 rw [←Rat.divInt_eq_div]
 by_cases h:q=0
 ·subst h
  rw [Rat.divInt_zero]
  exact Ev.bind (aGK p) (Ev.pure _)
 ·exact Ev.bind (aCV h (by omega) (by omega)) (Ev.pure _)
theorem Ev.get {α:Type} {f:Nat→Option α} {r:α} (h:Ev f r):∃K,f K=some r:=let ⟨N,h⟩:=h;⟨N,h N (Nat.le_refl _)⟩
theorem aAC {α:Type} {a b:Rat} {r s:α} (h:(bif qs a&&qs b then some s else none)=some r):qs a=true∧qs b=true∧s=r:=by
 cases ha:qs a<;>cases hb:qs b<;>rw [ha,hb] at h<;>simp at h
 exact⟨rfl,rfl,h⟩
theorem aE3 {α:Type} {a:Rat} {r s:α} (h:(bif qs a then some s else none)=some r):qs a=true∧s=r:=by
 cases ha:qs a<;>rw [ha] at h<;>simp at h
 exact⟨rfl,h⟩
theorem aM6 {p q:Int} {r:Rat} (h:qof p q=some r):(-9223372036854775808≤p∧p≤9223372036854775807)∧(-9223372036854775808≤q∧q≤9223372036854775807)∧r=(p:Rat)/q:=by
 unfold qof at h
 obtain⟨p',h1,k1⟩:=aM h
 obtain⟨q',h2,k2⟩:=aM k1
 obtain⟨e1,e2⟩:=zO h1
 obtain⟨e3,e4⟩:=zO h2
 rw [e1,e3] at k2
 exact⟨e2,e4,(Option.some.inj k2).symm⟩
theorem aDL {a b r:Rat} (h:aFc a b=some r):Ct Tryz.prog aMc [.va (eQ a),.va (eQ b)] (.va (eQ r)):=by
 obtain⟨h1,h2,rfl⟩:=aAC h
 obtain⟨K,hK⟩:=(aK8 h1 h2).get
 exact aGm hK
theorem zD {a b r:Rat} (h:aGr a b=some r):Ct Tryz.prog aMD [.va (eQ a),.va (eQ b)] (.va (eQ r)):=by
 obtain⟨h1,h2,rfl⟩:=aAC h
 obtain⟨K,hK⟩:=(aPt h1 h2).get
 exact aKD hK
theorem xR {a b r:Rat} (h:aEr a b=some r):Ct Tryz.prog aML [.va (eQ a),.va (eQ b)] (.va (eQ r)):=by
 obtain⟨h1,h2,rfl⟩:=aAC h
 obtain⟨K,hK⟩:=(aKM h1 h2).get
 exact aGG hK
theorem y9 {a b r:Rat} (h:aGv a b=some r):Ct Tryz.prog aMz [.va (eQ a),.va (eQ b)] (.va (eQ r)):=by
 obtain⟨h1,h2,rfl⟩:=aAC h
 obtain⟨K,hK⟩:=(aPl h1 h2).get
 exact aKe hK
theorem wK {a r:Rat} (h:aCh a=some r):Ct Tryz.prog aMk [.va (eQ a)] (.va (eQ r)):=by
 obtain⟨h1,rfl⟩:=aE3 h
 exact aGk (aL6 a)
theorem eS {a:Rat} {r:Int} (h:xD a=some r):Ct Tryz.prog aKk [.va (eQ a)] (.vc (pI .i64 r)):=by
 obtain⟨h1,rfl⟩:=aE3 h
 exact aCx (aJC a)
theorem aIP {a b:Rat} {r:Bool} (h:aHE a b=some r):Ct Tryz.prog aKs [.va (eQ a),.va (eQ b)] (.vc (pB r)):=by
 obtain⟨h1,h2,rfl⟩:=aAC h
 obtain⟨K,hK⟩:=(aNq h1 h2).get
 exact aJh hK
theorem uH {p q:Int} {r:Rat} (h:qof p q=some r):Ct Tryz.prog aN4 [.vc (pI .i64 p),.vc (pI .i64 q)] (.va (eQ r)):=by
 obtain⟨h1,h2,rfl⟩:=aM6 h
 obtain⟨K,hK⟩:=(aQS h1 h2).get
 exact aMm hK
theorem oH {a b r:Rat} (h:aFc a b=some r):Ct Tryz.prog aEt [.va (eQ a),.va (eQ b)] (.va (eQ r)):=by
 obtain⟨h1,h2,rfl⟩:=aAC h
 obtain⟨K,hK⟩:=(aJD h1 h2).get
 exact aAv hK
theorem aD5 {a b r:Rat} (h:aGr a b=some r):Ct Tryz.prog aEl [.va (eQ a),.va (eQ b)] (.va (eQ r)):=by
 obtain⟨h1,h2,rfl⟩:=aAC h
 obtain⟨K,hK⟩:=(aNG h1 h2).get
 exact aDz hK
theorem xQ {a b r:Rat} (h:aEr a b=some r):Ct Tryz.prog aEi [.va (eQ a),.va (eQ b)] (.va (eQ r)):=by
 obtain⟨h1,h2,rfl⟩:=aAC h
 obtain⟨K,hK⟩:=(aNJ h1 h2).get
 exact aDB hK
theorem aDE {a b r:Rat} (h:aGv a b=some r):Ct Tryz.prog aEg [.va (eQ a),.va (eQ b)] (.va (eQ r)):=by
 obtain⟨h1,h2,rfl⟩:=aAC h
 obtain⟨K,hK⟩:=(aNV h1 h2).get
 exact aDQ hK
theorem oO {a r:Rat} (h:aCh a=some r):Ct Tryz.prog aEu [.va (eQ a)] (.va (eQ r)):=by
 obtain⟨h1,rfl⟩:=aE3 h
 obtain⟨K,hK⟩:=(aJT h1).get
 exact aAJ hK
theorem kZ {a:Rat} {r:Int} (h:xD a=some r):Ct Tryz.prog aDC [.va (eQ a)] (.vc (pI .i64 r)):=by
 obtain⟨h1,rfl⟩:=aE3 h
 obtain⟨K,hK⟩:=(aMw h1).get
 exact aDl hK
theorem aDd {a b:Rat} {r:Bool} (h:aHE a b=some r):Ct Tryz.prog aDY [.va (eQ a),.va (eQ b)] (.vc (pB r)):=by
 obtain⟨h1,h2,rfl⟩:=aAC h
 obtain⟨K,hK⟩:=(aMr h1 h2).get
 exact aDf hK
theorem dX {p q:Int} {r:Rat} (h:qof p q=some r):Ct Tryz.prog aEY [.vc (pI .i64 p),.vc (pI .i64 q)] (.va (eQ r)):=by
 obtain⟨h1,h2,rfl⟩:=aM6 h
 obtain⟨K,hK⟩:=(aK7 h1 h2).get
 exact aAV hK
end Go.Proofs.YtolfcbpgmfbgmaaGreat
set_option linter.unusedVariables false
namespace Go.Proofs.YtolfcbpgmfbgmaaGreat
theorem rdG {α:Type} {xs:List α} {i:Nat} {x:α} (h:xs[i]?=some x):bF xs (i:Int)=some x:=by
 unfold bF
 rw [if_pos (by omega)]
 simpa using h
theorem rdM {α:Type} {xs:List α} {i:Nat} (h:i<xs.length):∃x,x∈xs∧xs[i]?=some x∧bF xs (i:Int)=some x:=
 ⟨xs[i],List.getElem_mem h,List.getElem?_eq_getElem h,rdG (List.getElem?_eq_getElem h)⟩
theorem stG {α:Type} {xs:List α} {i:Nat} {v:α} (h:i<xs.length):qL xs (i:Int) v=some (xs.set i v):=by
 unfold qL
 rw [if_pos (by constructor;omega;simpa using h)]
 simp
def aCa (xs:List Int):Prop:=∀x∈xs,-9223372036854775808≤x∧x≤9223372036854775807
def Bd (n:Nat) (q:Rat):Prop:=q.num.natAbs<2^n∧q.den<2^n
theorem Bd.mono {m n:Nat} {q:Rat} (h:Bd m q) (hn:m≤n):Bd n q:=
 ⟨Nat.lt_of_lt_of_le h.1 (Nat.pow_le_pow_right (by decide) hn),Nat.lt_of_lt_of_le h.2 (Nat.pow_le_pow_right (by decide) hn)⟩
theorem aLs {a n:Nat} (h:a<2^n) (hn:n≤1073741824):a.log2≤1073741824:=by
 by_cases h0:a=0
 ·subst h0;decide
 ·have:=(Nat.log2_lt h0).2 h
  omega
theorem Bd.qs {n:Nat} {q:Rat} (h:Bd n q) (hn:n≤1073741824):qs q=true:=by
 unfold Go.Proofs.YtolfcbpgmfbgmaaGreat.qs
 rw [Bool.and_eq_true,Nat.ble_eq,Nat.ble_eq]
 exact⟨aLs h.1 hn,aLs h.2 hn⟩
theorem aGV (n:Int) {d:Int} (hd:d≠0):(Rat.divInt n d).num.natAbs≤n.natAbs:=by
 rw [Rat.num_divInt]
 have h:(d.sign*n/((d.gcd n:Nat):Int)).natAbs≤(d.sign*n).natAbs:=Int.natAbs_ediv_le_natAbs _ _
 rw [Int.natAbs_mul,Int.natAbs_sign_of_ne_zero hd,Nat.one_mul] at h
 exact h
theorem aGT (n:Int) {d:Int} (hd:d≠0):(Rat.divInt n d).den≤d.natAbs:=by
 rw [Rat.den_divInt,if_neg hd]
 exact Nat.div_le_self _ _
theorem Bd.divInt {k:Nat} {n d:Int} (hd:d≠0) (h1:n.natAbs<2^k) (h2:d.natAbs<2^k):Bd k (Rat.divInt n d):=
 ⟨Nat.lt_of_le_of_lt (aGV n hd) h1,Nat.lt_of_le_of_lt (aGT n hd) h2⟩
theorem Bd.zero:Bd 1 0:=by constructor<;>decide
theorem aEc {a b m n:Nat} (h1:a<2^m) (h2:b<2^n):a*b<2^(m+n):=by
 rw [Nat.pow_add]
 exact Nat.mul_lt_mul'' h1 h2
theorem Bd.mul {m n:Nat} {a b:Rat} (ha:Bd m a) (hb:Bd n b):Bd (m+n) (a*b):=by
 rw [aGB]
 refine Bd.divInt (Int.mul_ne_zero (by have:=a.den_nz;omega) (by have:=b.den_nz;omega)) ?_ ?_
 ·rw [Int.natAbs_mul];exact aEc ha.1 hb.1
 ·rw [Int.natAbs_mul,Int.natAbs_natCast,Int.natAbs_natCast];exact aEc ha.2 hb.2
theorem Bd.add {m n:Nat} {a b:Rat} (ha:Bd m a) (hb:Bd n b):Bd (m+n+1) (a+b):=by
 rw [aIp]
 have h1:=aEc ha.1 hb.2
 have h2:=aEc hb.1 ha.2
 have h3:=aEc ha.2 hb.2
 rw [Nat.add_comm n m] at h2
 refine Bd.divInt (Int.mul_ne_zero (by have:=a.den_nz;omega) (by have:=b.den_nz;omega)) ?_ ?_
 ·have:=Int.natAbs_add_le (a.num*b.den) (b.num*a.den)
  rw [Int.natAbs_mul,Int.natAbs_mul,Int.natAbs_natCast,Int.natAbs_natCast] at this
  rw [Nat.pow_succ]
  omega
 ·rw [Int.natAbs_mul,Int.natAbs_natCast,Int.natAbs_natCast,Nat.pow_succ];omega
theorem Bd.neg {n:Nat} {a:Rat} (ha:Bd n a):Bd n (-a):=by
 unfold Bd
 rw [Rat.neg_num,Rat.neg_den,Int.natAbs_neg];exact ha
theorem Bd.sub {m n:Nat} {a b:Rat} (ha:Bd m a) (hb:Bd n b):Bd (m+n+1) (a-b):=by
 rw [Rat.sub_eq_add_neg];exact ha.add hb.neg
theorem Bd.inv {n:Nat} {b:Rat} (hb:Bd n b) (hn:1≤n):Bd n b⁻¹:=by
 by_cases h:b.num=0
 ·rw [Rat.num_eq_zero.1 h,Rat.inv_zero];exact Bd.zero.mono hn
 ·rw [aFG h]
  exact Bd.divInt h (by simpa using hb.2) hb.1
theorem Bd.pos {n:Nat} {q:Rat} (h:Bd n q):1≤n:=by
 rcases Nat.eq_zero_or_pos n with h0|h0
 ·subst h0
  have:=h.2
  have:=q.den_nz
  omega
 ·exact h0
theorem Bd.div {m n:Nat} {a b:Rat} (ha:Bd m a) (hb:Bd n b):Bd (m+n) (a/b):=by
 rw [Rat.div_def];exact ha.mul (hb.inv hb.pos)
theorem aAX {m n:Nat} {a b:Rat} (ha:Bd m a) (hb:Bd n b) (hm:m≤1073741824) (hn:n≤1073741824):aFc a b=some (a+b):=by
 unfold aFc;rw [ha.qs hm,hb.qs hn];rfl
theorem aLR {m n:Nat} {a b:Rat} (ha:Bd m a) (hb:Bd n b) (hm:m≤1073741824) (hn:n≤1073741824):aGr a b=some (a-b):=by
 unfold aGr;rw [ha.qs hm,hb.qs hn];rfl
theorem aC1 {m n:Nat} {a b:Rat} (ha:Bd m a) (hb:Bd n b) (hm:m≤1073741824) (hn:n≤1073741824):aEr a b=some (a*b):=by
 unfold aEr;rw [ha.qs hm,hb.qs hn];rfl
theorem aLP {m n:Nat} {a b:Rat} (ha:Bd m a) (hb:Bd n b) (hm:m≤1073741824) (hn:n≤1073741824):aGv a b=some (a/b):=by
 unfold aGv;rw [ha.qs hm,hb.qs hn];rfl
theorem aF8 {m n:Nat} {a b:Rat} (ha:Bd m a) (hb:Bd n b) (hm:m≤1073741824) (hn:n≤1073741824):aHE a b=some (decide (a=b)):=by
 unfold aHE;rw [ha.qs hm,hb.qs hn];rfl
theorem aCU {m:Nat} {a:Rat} (ha:Bd m a) (hm:m≤1073741824):aCh a=some (-a):=by
 unfold aCh;rw [ha.qs hm];rfl
theorem uS {m:Nat} {a:Rat} (ha:Bd m a) (hm:m≤1073741824):xD a=some a.num.sign:=by
 unfold xD;rw [ha.qs hm];rfl
theorem aN3 {p q:Int} (hp:-9223372036854775808≤p∧p≤9223372036854775807) (hq:-9223372036854775808≤q∧q≤9223372036854775807):qof p q=some ((p:Rat)/q):=by
 unfold qof;rw [vX hp,vX hq];rfl
theorem Bd.of {k:Nat} {p q:Int} (hq:q≠0) (h1:p.natAbs<2^k) (h2:q.natAbs<2^k):Bd k ((p:Rat)/q):=by
 rw [←Rat.divInt_eq_div];exact Bd.divInt hq h1 h2
theorem aRt {k:Nat} {p q:Int} (hq:q≠0) (h1:p.natAbs<2^k) (h2:q.natAbs<2^k) (hk:k≤62):∃r,qof p q=some r∧r=(p:Rat)/q∧Bd k r:=by
 have:2^k≤2^62:=Nat.pow_le_pow_right (by decide) hk
 refine⟨_,aN3 (by omega) (by omega),rfl,Bd.of hq h1 h2⟩
end Go.Proofs.YtolfcbpgmfbgmaaGreat
set_option linter.unusedVariables false
namespace Go.Proofs.YtolfcbpgmfbgmaaGreat
open Go.ChangeShapes Go.WideShapes Go.ChangeAt Go.RowKit
inductive AV
 |vi (n:Int)
 |vs (xs:List Int)
 |vb (b:Bool)
inductive AK
 |ki
 |ks
 |kb
def AV.vp:AV→VP
 | .vi n=>.vc (pI .i64 n)
 | .vs xs=>.vc (pS cI xs)
 | .vb x=>.vc (pB x)
def AV.good:AK→AV→Prop
 | .ki,.vi n=>-9223372036854775808≤n∧n≤9223372036854775807
 | .ks,.vs xs=>aCa xs∧xs.length≤aBq
 | .kb,.vb _=>True
 |_,_=>False
def AK.ok (P:Program) (t:TypeId):AK→Prop
 | .ki=>P.underlying t=some (.int .i64)
 | .ks=>∃e,P.underlying t=some (.slice e)∧P.underlying e=some (.int .i64)∧P.cellsOf e=1
 | .kb=>P.underlying t=some .bool
def aLt (W:World):jI:=fun b=>W.heap[b]?
theorem aO1 {H:Type} {enc:TypeId×Value→H} {P:Program} {W:World} {base:Nat} {t:TypeId} {v:Value} {d:DataW H} {p:List MemPlace} {k:AK} (hk:k.ok P t) (hval:Value.okWide P W .any base t v) (h:DataW.Trod enc P W 0 (fun _=>true) true t v d p):
  ∃av:AV,AV.good k av∧av.vp.h (aLt W) v∧∀(W':World) (sp:Nat→Bool),(∀b,b<W.heap.size→W'.heap[b]?=W.heap[b]?)→(∀q∈p,sp q.block=true)→DataW.Trod enc P W' 0 sp true t v d p:=by
 cases k with
 |ki=>
  obtain⟨n,rfl,rfl,rfl,hw⟩:=open_int hk hval h
  exact⟨.vi n,bounds_i64 hw,rfl,fun W' sp _ _=>shut_int hk hw⟩
 |kb=>
  obtain⟨x,rfl,rfl,rfl⟩:=open_bool hk hval h
  exact⟨.vb x,trivial,rfl,fun W' sp _ _=>shut_bool hk x⟩
 |ks=>
  obtain⟨e,ht,he,hc⟩:=hk
  obtain⟨a0,aDZ,cap0,rfl⟩:=okWide_slice ht hval
  obtain⟨aY,hf⟩:=h
  rcases open_ints ht he hc hf with⟨h1,h2⟩|⟨a,len,cap,zs,h1,hb,hl,hm,hz,hx,hcell,hw⟩
  ·have h1':Value.slice a0 aDZ cap0=.slice none 0 0:=by simpa [Value.cells] using h1
   rw [h1']
   simp only [Prod.mk.injEq] at h2
   obtain⟨rfl,rfl⟩:=h2
   exact⟨.vs [],⟨fun x hx=>by simp at hx,by simp⟩,cD cI _,fun W' sp _ _=>shut_slice_nil ht⟩
  ·have h1':Value.slice a0 aDZ cap0=.slice (some a) len cap:=by simpa [Value.cells] using h1
   rw [h1']
   simp only [Prod.mk.injEq] at hx
   obtain⟨rfl,rfl⟩:=hx
   have hzl:zs.length=cap:=by simpa using hz
   have hbl:∀i,i<zs.length→a.block<W.heap.size:=fun i hi=>by
    have:=hcell i hi
    unfold World.cell? at this
    rw [block_add] at this
    cases hq:W.heap[a.block]? with
    |none=>rw [hq] at this;cases this
    |some o=>exact(Array.getElem?_eq_some_iff.1 hq).1
   refine⟨.vs (zs.take len),⟨fun x hx=>bounds_i64 (hw x (List.mem_of_mem_take hx)),?_⟩,?_,fun W' sp hW hsp=>⟨2,?_⟩⟩
   ·have hlen0:(zs.take len).length≤cap:=by simp;omega
    have:maxLen≤aBq:=by decide
    omega
   ·have hlen:(zs.take len).length=len:=by simp;omega
    refine⟨some a,cap,by rw [hlen],?_,by rw [hlen];exact hl,fun j x hj=>?_⟩
    ·rw [hlen]
     have:maxLen≤aBq:=by decide
     omega
    ·have hjl:j<len:=by have:=(List.getElem?_eq_some_iff.1 hj).1;omega
     have hcj:=hcell j (by omega)
     have hsp:a.spot=none:=by
      have hc0:=hcell 0 (by omega)
      unfold World.cell? at hc0
      cases hq:a.spot with
      |none=>rfl
      |some s=>
       have e0:a.add 0=a:=by simp [Addr.add]
       rw [e0,hq] at hc0
       cases hh:W.heap[a.block]? with
       |none=>rw [hh] at hc0;cases hc0
       |some o=>rw [hh] at hc0;cases o<;>simp at hc0
     obtain⟨ab,ao,ax⟩:=a
     simp only at hsp
     subst hsp
     have hxz:zs.getD j 0=x:=by
      rw [List.getElem?_take,if_pos hjl] at hj
      simp [List.getD_eq_getElem?_getD,hj]
     rw [aA9,hxz] at hcj
     refine⟨ab,ao,rfl,[.int .i64 x],⟨rfl,trivial⟩,fun t u hu=>?_⟩
     cases t with
     |succ t=>simp at hu
     |zero=>
      simp only [List.getElem?_cons_zero,Option.some.injEq] at hu
      subst hu
      unfold World.cell? at hcj
      have e1:ao+j*cI.n+0=ao+j:=by show ao+j*1+0=ao+j;omega
      rw [e1]
      unfold y0 aLt
      cases hh:W.heap[ab]? with
      |none=>rw [hh] at hcj;cases hcj
      |some o=>rw [hh] at hcj;cases o<;>simp_all
   ·have hz':zs.length=(if sp a.block then cap else len):=by
     by_cases h0:cap=0
     ·have:len=0:=by omega
      rw [hzl,h0,this];simp
     ·have:sp a.block=true:=hsp (.cell a.block (a.off+0)) (by
       unfold MemPlace.row
       exact List.mem_map.2 ⟨0,List.mem_range.2 (by omega),rfl⟩)
      rw [this];simpa using hzl
    exact shut_ints 0 ht he hc (Nat.zero_le _) hl hm hz' (fun i hi=>by
     rw [←hcell i hi]
     unfold World.cell?
     rw [block_add,hW _ (hbl i hi)]) hw
def AKs (P:Program):List TypeId→List AK→Prop
 |[],[]=>True
 |t::ts,k::ks=>k.ok P t∧AKs P ts ks
 |_,_=>False
def aLB:List AK→List AV→Prop
 |[],[]=>True
 |k::ks,a::l=>AV.good k a∧aLB ks l
 |_,_=>False
theorem aIN {H:Type} {enc:TypeId×Value→H} {P:Program} {W:World} {base:Nat}:∀{ts:List TypeId} {ks:List AK} {vs:List Value} {ds:List (DataW H)} {p:List MemPlace},AKs P ts ks→
  (∀(j:Nat) t v,ts[j]?=some t→vs[j]?=some v→Value.okWide P W .any base t v)→DataW.TrodAll enc P W 0 (fun _=>true) true ts vs ds p→
  ∃avs,aLB ks avs∧lG (aLt W) (avs.map AV.vp) vs∧ds.length=ts.length∧∀(W':World) (sp:Nat→Bool),(∀b,b<W.heap.size→W'.heap[b]?=W.heap[b]?)→(∀q∈p,sp q.block=true)→DataW.TrodAll enc P W' 0 sp true ts vs ds p
 |[],[],vs,ds,p,_,_,h=>by
  obtain⟨rfl,rfl,rfl⟩:=trodAll_nil h
  exact⟨[],trivial,trivial,rfl,fun _ _ _ _=>trodAll_mk0⟩
 |t::ts,k::ks,vs,ds,p,hk,hv,h=>by
  obtain⟨v,vs',d,ds',q,r,rfl,rfl,rfl,h1,h2⟩:=trodAll_cons h
  obtain⟨av,a1,a2,a3⟩:=aO1 hk.1 (hv 0 t v rfl rfl) h1
  obtain⟨avs,b1,b2,b3,b4⟩:=aIN hk.2 (fun j t' v' hj hj'=>hv (j+1) t' v' (by simpa using hj) (by simpa using hj')) h2
  exact⟨av::avs,⟨a1,b1⟩,⟨a2,b2⟩,by simp [b3],fun W' sp hW hsp=>trodAll_cons_mk (a3 W' sp hW fun x hx=>hsp x (by simp [hx])) (b4 W' sp hW fun x hx=>hsp x (by simp [hx]))⟩
 |[],_::_,_,_,_,hk,_,_=>hk.elim
 |_::_,[],_,_,_,hk,_,_=>hk.elim
theorem aPc {H:Type} {enc:TypeId×Value→H} {P:Program} {f:Func} {s:ChangeSpec} {apart fresh:Bool} {W W':World} {args:Array Value} {ds:List (DataW H)} {before:List MemPlace} {tb:TypeId}
  (hW:DataW.Whole enc P f.params.toList s.vars apart W args.toList ds [] before) (hv:s.vars=[]) (hr:f.resultTypes=#[tb]) (htb:P.underlying tb=some .bool)
  (hfn:s.fn H (ds++[])={results:=[.lit (.bool true)],args:=ds})
  (hargs:∀sp:Nat→Bool,(∀p∈before,sp p.block=true)→DataW.TrodAll enc P W' 0 sp true f.params.toList args.toList ds before) (hb:Below W.heap.size W W'):
  s.post enc P f apart fresh false false W args (.bool true) W':=by
 have hin:∀p∈before,(fun b=>decide (b<W.heap.size)) p.block=true:=fun p hp=>by simpa using hW.lt p hp
 refine⟨ds,[],before,[],before,[],hW,?_,?_,?_,World.keptBut_mono (fun p hp=>⟨hp,.inr (.inl hp)⟩) (hb.frame (·∈before)),fun h=>by cases h⟩
 ·rw [hfn,hr]
  exact trodAll_mk1 (shut_bool htb true)
 ·rw [hfn]
  exact hargs _ hin
 ·rw [hfn,hv]
  simp [DataW.TrodVars]
theorem aIC {H:Type} {enc:TypeId×Value→H} {P:Program} {n:Nat} {f:Func} {s:ChangeSpec} {apart fresh:Bool} {ts:List TypeId} {ks:List AK} {tb:TypeId} (hp:f.params=ts.toArray) (hk:AKs P ts ks)
  (hlaw:∀avs,aLB ks avs→Ct P n (avs.map AV.vp) (.vc (pB true))) (hv:s.vars=[]) (hr:f.resultTypes=#[tb]) (htb:P.underlying tb=some .bool)
  (hfn:∀ds:List (DataW H),ds.length=ts.length→s.fn H (ds++[])={results:=[.lit (.bool true)],args:=ds})
  {W:World} {base:Nat} {args:Array Value} {ds gs:List (DataW H)} {before:List MemPlace} (hval:∀(j:Nat) t v,f.params[j]?=some t→args[j]?=some v→Value.okWide P W .any base t v)
  (hW:DataW.Whole enc P f.params.toList s.vars apart W args.toList ds gs before):
  Calls P n args W fun e W'=>∃v,e=.returned v∧s.post enc P f apart fresh false false W args v W':=by
 have hW':=hW
 obtain⟨p,q,hA,hV,rfl,hfz,hnd⟩:=hW
 rw [hv] at hV
 obtain⟨rfl,rfl⟩:=trodVars_none hV
 rw [hp] at hA hval
 obtain⟨avs,a1,a2,a3,a4⟩:=aIN hk (fun j t v hj hj'=>hval j t v (by simpa using hj) (by simpa using hj')) hA
 have c:=hlaw avs a1
 refine(c.run (aLt W) W args (fun b o h=>h) (by simp) (by simp) a2).mono fun e W' h=>?_
 obtain⟨v,M',Ho,qq,⟨rfl,rfl⟩,rfl,hst,hq⟩:=h
 have hv1:v=.bool true:=hq
 subst hv1
 have hkeep:∀b,b<W.heap.size→W'.heap[b]?=W.heap[b]?:=fun b hb=>hst.keep b hb (by simp)
 refine⟨_,rfl,aPc (tb:=tb) hW' hv hr htb (hfn ds a3) (fun sp hsp=>?_) ⟨hst.os,hst.tape,hst.output,hst.size,hkeep⟩⟩
 rw [hp]
 have:=a4 W' sp hkeep (fun x hx=>hsp x (by simpa using hx))
 simpa using this
theorem own:ownKnob Tryz.prog.godebug=none:=by kernel_rfl
end Go.Proofs.YtolfcbpgmfbgmaaGreat
set_option linter.unusedVariables false
namespace Go.Proofs.YtolfcbpgmfbgmaaGreat
/-- The facts, numbered. -/
def jF (P:Program) (f:FuncId) (fn:Func) (s:ChangeSpec) (c:OpenClaim):Nat→Bool
 |0=>c.wf (OpenSpec.ofChange s)
 |1=>laidOutB P
 |2=>mapsRowed P
 |3=>fn.params.all (P.readableRec ·)
 |4=>namedTie P c.named s.vars
 |5=>c.stops==[]
 |6=>P.stops==[]
 |7=>c.knobs==[]
 |8=>P.stopKnobs==[]
 |9=>c.inPlace==P.inPlace f
 |10=>c.unfollowed==P.unfollowed f
 |11=>c.recurses==P.recurses f
 |12=>c.named==P.varsNamed f
 |13=>c.maps==(fn.params.toList++s.plain.varTypes P).any (P.mapsRec ·)
 |14=>c.ifaces==(fn.params.toList++s.plain.varTypes P).any (P.ifacesRec ·)
 |15=>c.mapsOut==P.mapsAmong fn.resultTypes.toList
 |16=>c.loops==(fn.params.toList++s.plain.varTypes P).any (P.loopsFrom ·)
 |17=>c.wideKeys==(fn.params.toList++s.plain.varTypes P++fn.resultTypes.toList).any (P.wideKeysFrom ·)
 |18=>s.vars.all (P.varReadable ·)
 |19=>fn.resultTypes.all (fun t=>P.readableRec t&&decide (t<P.types.size))
 |20=>c.ifacesOut==fn.resultTypes.toList.any (P.ifacesRec ·)
 |21=>c.loopsOut==fn.resultTypes.toList.any (P.loopsFrom ·)
 |22=>c.plainKeys==P.plainKeys
 |23=>c.shortTexts.isNone
 |24=>P.stopsHeard
 |25=>P.mayEnter
 |26=>c.lifted==P.liftsFinal
 |27=>P.make==some c.make
 |28=>c.kinds==(if c.domain.isEmpty then [] else fn.params.toList.map fun t=>match P.underlying t with|some (.int k)=>some k|_=>none)
 |29=>c.pinned==c.pinnedBy
 |30=>c.veiled==(fn.params.toList++s.plain.varTypes P++fn.resultTypes.toList).any (P.veiledRec ·)
 |31=>c.veiledFits P fn.params.toList (fn.params.toList++s.plain.varTypes P++fn.resultTypes.toList)
 |_=>true
theorem aMv {P:Program} {f:FuncId} {fn:Func} {s:ChangeSpec} {c:OpenClaim} (h:∀i,i<32→jF P f fn s c i=true):joinedFacts P f fn s c=true:=by
 unfold joinedFacts
 simp only [Bool.and_eq_true]
 exact⟨⟨⟨⟨⟨⟨⟨⟨⟨⟨⟨⟨⟨⟨⟨⟨⟨⟨⟨⟨⟨⟨⟨⟨⟨⟨⟨⟨⟨⟨⟨h 0 (by decide),h 1 (by decide)⟩,h 2 (by decide)⟩,h 3 (by decide)⟩,h 4 (by decide)⟩,h 5 (by decide)⟩,h 6 (by decide)⟩,h 7 (by decide)⟩,h 8 (by decide)⟩,h 9 (by decide)⟩,h 10 (by decide)⟩,h 11 (by decide)⟩,h 12 (by decide)⟩,h 13 (by decide)⟩,h 14 (by decide)⟩,h 15 (by decide)⟩,h 16 (by decide)⟩,h 17 (by decide)⟩,h 18 (by decide)⟩,h 19 (by decide)⟩,h 20 (by decide)⟩,h 21 (by decide)⟩,h 22 (by decide)⟩,h 23 (by decide)⟩,h 24 (by decide)⟩,h 25 (by decide)⟩,h 26 (by decide)⟩,h 27 (by decide)⟩,h 28 (by decide)⟩,h 29 (by decide)⟩,h 30 (by decide)⟩,h 31 (by decide)⟩
theorem lO {φ:Nat→Prop} {n:Nat} (h:φ n) (k:∀i,i<n→φ i):∀i,i<n+1→φ i:=fun i hi=>by
 by_cases e:i=n
 ·rw [e];exact h
 ·exact k i (by omega)
end Go.Proofs.YtolfcbpgmfbgmaaGreat
set_option linter.unusedVariables false
namespace Go.Proofs.YtolfcbpgmfbgmaaGreat
open Rat
def aQW (a b:Rat):Option Int:=bif qs a&&qs b then some (if a<b then -1 else if b<a then 1 else 0) else none
def aMF (a:Rat):Option Bool:=bif qs a then some true else none
theorem aNN (x y:Int) (hx:x<0) (hy:y<0):xK (y.natAbs:Int) (x.natAbs:Int)=xK x y:=by
 unfold xK
 by_cases a:x<y
 ·rw [if_pos a,if_pos (by omega)]
 ·rw [if_neg a,if_neg (by omega)]
  by_cases b:y<x
  ·rw [if_pos b,if_pos (by omega)]
  ·rw [if_neg b,if_neg (by omega)]
theorem aGH {x y:Int} (hx:dl x.natAbs≤9000000000000) (hy:dl y.natAbs≤9000000000000):Ev (fun K=>mY K (Z x) (Z y)) (xK x y):=by
 have dx:=bN x.natAbs;have dy:=bN y.natAbs
 have tx:=pL x.natAbs;have ty:=pL y.natAbs
 unfold mY
 simp only [Z_d,uA]
 by_cases h1:x<0
 ·by_cases h2:y<0
  ·simp only [dT h1,dT h2,bne_self_eq_false,bM,bS]
   have h:=aA1 dy dx ty tx (by show dl _≤_;omega)
   rw [dJ,dJ,aNN x y h1 h2] at h
   exact Ev.bind h (Ev.pure _)
  ·simp only [dT h1,dF h2,Bool.bne_false,bS]
   unfold xK
   rw [if_pos (by omega)]
   exact Ev.pure _
 ·by_cases h2:y<0
  ·simp only [dF h1,dT h2,Bool.bne_true,Bool.not_false,bS,bM]
   unfold xK
   rw [if_neg (by omega),if_pos (by omega)]
   exact Ev.pure _
  ·simp only [dF h1,dF h2,bne_self_eq_false,bM]
   have h:=aA1 dx dy tx ty (by show dl _≤_;omega)
   rw [dJ,dJ,show((x.natAbs:Nat):Int)=x by omega,show((y.natAbs:Nat):Int)=y by omega] at h
   exact Ev.bind h (Ev.pure _)
theorem aMe (a b:Rat):(if a<b then -1 else if b<a then 1 else 0:Int)=xK (a.num*b.den) (b.num*a.den):=by
 unfold xK
 simp only [Rat.lt_iff]
theorem aFQ (u v:Int) (p q:Nat) (hp:0<p) (hq:0<q) (h:u.sign≠v.sign∨u=0∧v=0):xK u.sign v.sign=xK (u*q) (v*p):=by
 have key:∀(w:Int) (n:Nat),0<n→(w<0∧w.sign=-1∧w*n<0)∨(w=0∧w.sign=0∧w*n=0)∨(0<w∧w.sign=1∧0<w*n):=fun w n hn=>by
  rcases Int.lt_trichotomy w 0 with hw|hw|hw
  ·exact .inl ⟨hw,Int.sign_eq_neg_one_of_neg hw,Int.mul_neg_of_neg_of_pos hw (by omega)⟩
  ·exact .inr (.inl ⟨hw,by rw [hw];rfl,by rw [hw,Int.zero_mul]⟩)
  ·exact .inr (.inr ⟨hw,Int.sign_eq_one_of_pos hw,Int.mul_pos hw (by omega)⟩)
 unfold xK
 rcases key u q hq with⟨_,e1,e2⟩|⟨_,e1,e2⟩|⟨_,e1,e2⟩<;>rcases key v p hp with⟨_,f1,f2⟩|⟨_,f1,f2⟩|⟨_,f1,f2⟩<;>rw [e1,f1] at h<;>rw [e1,f1]<;>(repeat' split)<;>omega
theorem aLS (u:Int):-9223372036854775808≤u.sign∧u.sign≤9223372036854775807∧dl u.sign.natAbs≤1:=by
 have h1:dl 1=1:=dl1
 have h0:dl 0=0:=yE
 rcases Int.lt_trichotomy u 0 with hw|hw|hw
 ·rw [Int.sign_eq_neg_one_of_neg hw];exact⟨by omega,by omega,by show dl 1≤1;omega⟩
 ·rw [hw];exact⟨by decide,by decide,by show dl 0≤1;omega⟩
 ·rw [Int.sign_eq_one_of_pos hw];exact⟨by omega,by omega,by show dl 1≤1;omega⟩
theorem aJN {a b:Rat} (ha:qs a=true) (hb:qs b=true):Ev (fun K=>zK K (Qr a) (Qr b)) (if a<b then -1 else if b<a then 1 else 0):=by
 obtain⟨a1,a2⟩:=uN ha
 obtain⟨b1,b2⟩:=uN hb
 obtain⟨c1,c2,c3⟩:=aBn ha hb
 obtain⟨s1,s2,s3⟩:=aLS a.num
 obtain⟨t1,t2,t3⟩:=aLS b.num
 have ad:=a.den_pos
 have bd:=b.den_pos
 rw [aMe]
 unfold zK
 simp only [aJC,oB,aGa ⟨s1,s2⟩,aGa ⟨t1,t2⟩]
 by_cases h:a.num.sign=b.num.sign
 ·simp only [nF h,bM]
  by_cases h0:a.num.sign=0
  ·simp only [qT h0,bS]
   have e:=aFQ a.num b.num a.den b.den ad bd (.inr ⟨Int.sign_eq_zero_iff_zero.1 h0,Int.sign_eq_zero_iff_zero.1 (h▸h0)⟩)
   rw [←e]
   exact Ev.bind (aGH (by omega) (by omega)) (Ev.pure _)
  ·simp only [qF h0,bM,aEj,oB,Qp]
   exact Ev.bind (aA0 (by simp;omega)) (Ev.bind (aA0 (by simp;omega)) (Ev.bind (aGH (by omega) (by omega)) (Ev.pure _)))
 ·simp only [nT h,bS]
  rw [←aFQ a.num b.num a.den b.den ad bd (.inl h)]
  exact Ev.bind (aGH (by omega) (by omega)) (Ev.pure _)
theorem vdig {d:Int} (h:0≤d∧d<1000000000):jV d=some false:=by
 unfold jV
 rw [dF (by omega),bM,dF (by omega)]
theorem aGN {xs:List Int} (hd:lV xs) (hl:xs.length≤9000000000000) (K:Nat):∀(m i:Nat),i+m=xs.length→∀k,m<k→fZ K xs jV k i=some (.go ())
 |0,i,h,k+1,_=>by
  simp only [fZ]
  rw [dF (by omega),bM]
 |m+1,i,h,k+1,hk=>by
  simp only [fZ]
  rw [dT (by omega),bS,bZ (by omega),oB,vdig (hd i),oB,bM,show((i:Nat):Int)+1=((i+1:Nat):Int) by omega,aDM (by omega) (by omega),oB]
  exact aGN hd hl K m (i+1) (by omega) k (by omega)
theorem aGA {n:Nat} (h:dl n≠0):(bO n).getD (dl n-1) 0≠0:=by
 rcases pL n with h1|h1
 ·exact absurd (by unfold dl;rw [h1];rfl) h
 ·exact h1
theorem aIf {x:Int} (hx:dl x.natAbs≤9000000000000):Ev (fun K=>jE K (Z x)) true:=by
 refine⟨dl x.natAbs+1,fun K hK=>?_⟩
 have hc:f8 K (bO x.natAbs) jV=some false:=by
  unfold f8 mR
  have:=aGN (bN x.natAbs) (by show dl _≤_;omega) K (dl x.natAbs) 0 (by show 0+dl _=dl _;omega) K (by omega)
  rw [show((0:Nat):Int)=0 from rfl] at this
  rw [this]
  rfl
 show jE K (Z x)=some true
 unfold jE
 have hl0:(((bO x.natAbs).length:Int)==0)=decide (x=0):=aDZ
 rw [Z_d,hc,oB,bM,hl0]
 by_cases h:x=0
 ·rw [dT h,bS,uA,dF (by omega)];rfl
 ·have hl:dl x.natAbs≠0:=by rw [Ne,xP];omega
  have hlen:(bO x.natAbs).length=dl x.natAbs:=rfl
  rw [dF h,bM,dT (by omega),bS,aDM (by omega) (by omega),oB,hlen,show((dl x.natAbs:Nat):Int)-1=((dl x.natAbs-1:Nat):Int) by omega,bZ (by omega),oB,nT (aGA hl)]
theorem aHb {x:Int} (hl:dl x.natAbs≤9000000000000) (K:Nat):∀(m i:Nat),i+m=dl x.natAbs→∀k,m<k→dG K (Z x) k i=some (.go ())
 |0,i,h,k+1,_=>by
  have hlen:(Z x).d.length=dl x.natAbs:=rfl
  simp only [dG]
  rw [dF (show¬(i:Int)<((Z x).d.length:Int) by omega),bM]
 |m+1,i,h,k+1,hk=>by
  have hlen:(Z x).d.length=dl x.natAbs:=rfl
  have hd:0≤(Z x).d.getD i 0∧(Z x).d.getD i 0<1000000000:=bN x.natAbs i
  simp only [dG]
  rw [dT (show(i:Int)<((Z x).d.length:Int) by omega),bS,bZ (by omega),oB,dF (by omega),bM,oB,dF (by omega),bM,show((i:Nat):Int)+1=((i+1:Nat):Int) by omega,aDM (by omega) (by omega),oB]
  exact aHb hl K m (i+1) (by omega) k (by omega)
theorem aFt {x:Int} (hx:dl x.natAbs≤9000000000000):Ev (fun K=>eF K (Z x)) true:=by
 refine⟨dl x.natAbs+1,fun K hK=>?_⟩
 have:=aHb hx K (dl x.natAbs) 0 (by omega) K (by omega)
 show eF K (Z x)=some true
 unfold eF
 rw [show((0:Nat):Int)=0 from rfl] at this
 rw [this]
 show iW K (Z x)=some true
 unfold iW
 rw [aDZ]
 by_cases h:x=0
 ·rw [dT h,bS,uA,dF (by omega)];rfl
 ·have hl:dl x.natAbs≠0:=by rw [Ne,xP];omega
  have hlen:(bO x.natAbs).length=dl x.natAbs:=rfl
  rw [dF h,bM,Z_d,hlen,aDM (by omega) (by omega),oB,show((dl x.natAbs:Nat):Int)-1=((dl x.natAbs-1:Nat):Int) by omega,bZ (by omega),oB,nT (aGA hl)]
theorem aJb (a:Rat):Qr a=⟨Z a.num,Z (if a.den=1 then 0 else a.den)⟩:=by
 rw [aDX]
 by_cases h:a.den=1
 ·rw [if_pos h,if_pos h,Z0]
 ·rw [if_neg h,if_neg h]
theorem aFL {a:Rat}:(if a.den=1 then(0:Int) else a.den)≠1∧0≤(if a.den=1 then(0:Int) else a.den)∧dl (if a.den=1 then(0:Int) else a.den).natAbs≤dl a.den∧((if a.den=1 then(0:Int) else a.den)≠0→Int.gcd a.num (if a.den=1 then(0:Int) else a.den)=1):=by
 by_cases h:a.den=1
 ·rw [if_pos h];exact⟨by omega,by omega,by show dl 0≤_;rw [yE];omega,fun h=>absurd rfl h⟩
 ·rw [if_neg h];exact⟨by omega,by omega,by simp,fun _=>a.reduced⟩
theorem aHc {a:Rat} (ha:qs a=true):Ev (fun K=>jK K (Qr a)) true:=by
 obtain⟨a1,a2⟩:=uN ha
 obtain⟨q1,q2,q3,q4⟩:=@aFL a
 rw [aJb]
 generalize(if a.den=1 then(0:Int) else a.den)=q at *
 unfold jK
 refine Ev.bind (aIf (by omega)) ?_
 simp only [Bool.not_true,bM]
 refine Ev.bind (aIf (by omega)) ?_
 simp only [Bool.not_true,bM,uA,dF (show¬q<0 by omega),aCO,oB,dF q1,aDZ]
 by_cases h:q=0
 ·simp only [dT h,bS];exact Ev.pure _
 ·simp only [dF h,bM]
  refine Ev.bind (aK5 (by omega) (by omega)) ?_
  rw [q4 h]
  simp only [aCO,oB]
  exact Ev.pure _
theorem aGw {a:Rat} (ha:qs a=true):Ev (fun K=>bP K (Qr a)) true:=by
 obtain⟨a1,a2⟩:=uN ha
 obtain⟨q1,q2,q3,q4⟩:=@aFL a
 rw [aJb]
 generalize(if a.den=1 then(0:Int) else a.den)=q at *
 unfold bP
 refine Ev.bind (aFt (by omega)) ?_
 simp only [Bool.not_true,bM]
 refine Ev.bind (aFt (by omega)) ?_
 simp only [Bool.not_true,bM,uA,dF (show¬q<0 by omega),aEE,oB,dF q1,aDZ]
 by_cases h:q=0
 ·simp only [dT h,bS];exact Ev.pure _
 ·simp only [dF h,bM]
  refine Ev.bind (aJi (by omega) (by omega)) ?_
  rw [q4 h]
  simp only [aEE,oB]
  exact Ev.pure _
theorem aCn {a b:Rat} {r:Int} (h:aQW a b=some r):Ct Tryz.prog aG0 [.va (eQ a),.va (eQ b)] (.vc (pI .i64 r)):=by
 obtain⟨h1,h2,rfl⟩:=aAC h
 obtain⟨K,hK⟩:=(aJN h1 h2).get
 exact aGJ hK
theorem aIz {a:Rat} {r:Bool} (h:aMF a=some r):Ct Tryz.prog aIS [.va (eQ a)] (.vc (pB r)):=by
 obtain⟨h1,rfl⟩:=aE3 h
 obtain⟨K,hK⟩:=(aHc h1).get
 exact aEk hK
theorem aCr {a:Rat} {r:Bool} (h:aMF a=some r):Ct Tryz.prog aDg [.va (eQ a)] (.vc (pB r)):=by
 obtain⟨h1,rfl⟩:=aE3 h
 obtain⟨K,hK⟩:=(aGw h1).get
 exact zX hK
end Go.Proofs.YtolfcbpgmfbgmaaGreat
set_option linter.unusedVariables false
namespace Go.Proofs.YtolfcbpgmfbgmaaGreat
/-- The parts of a loop's record that stay. -/
structure LX where
 fn:FuncId
 tmps:Array Value
 ps:Array Tmp
 asg:Code
 bd:Code
 D:Nat
def LX.at (x:LX) (st:LoopState) (pe:Option Code):Loop:={state:=st,pending:=pe,fn:=x.fn,tmps:=x.tmps,params:=x.ps,assign:=x.asg,body:=x.bd,defers:=x.D}
def rcS (x:LX) (jump:Nat→Code):Nat→Obj
 |0=>.loop (x.at .ready none)
 |j+1=>.loop (x.at .done (some (jump j)))
def rcB (x:LX):Obj:=.loop (x.at .busy none)
theorem aEp (x:LX) (jump:Nat→Code) (j:Nat):∃r,rcS x jump j=.loop r:=by cases j<;>exact⟨_,rfl⟩
def pY (l:Nat):CP:=⟨fun _ v=>v=.func (.yield l) #[] #[],fun _ h=>h,fun h=>by subst h;rfl⟩
def jI.less (M:jI) (l:Nat):jI:=fun b=>if b=l then none else M b
def jI.more (M:jI) (l:Nat) (o:Obj):jI:=fun b=>if b=l then some o else M b
theorem aAn (M:jI) (l:Nat):M.less l l=none:=if_pos rfl
theorem aC2 (M:jI) (l:Nat) (o:Obj):M.more l o l=some o:=if_pos rfl
theorem aBZ {M:jI} {l b:Nat} (h:b≠l):M.less l b=M b:=if_neg h
theorem aC7 {M:jI} {l b:Nat} {o:Obj} (h:b≠l):M.more l o b=M b:=if_neg h
theorem aHW {M:jI} {l:Nat} {r:Loop} (h:M l=some (.loop r)):mlc M (M.less l):=fun b i v hv=>by
 unfold y0 at hv ⊢
 by_cases e:b=l
 ·subst e;rw [h] at hv;cases hv
 ·rw [aBZ e];exact hv
theorem aCI {M:jI} {l:Nat} {o:Obj} (h:M l=none):oX M (M.more l o):=fun b o' hb=>by
 by_cases e:b=l
 ·subst e;rw [h] at hb;cases hb
 ·rw [aC7 e];exact hb
theorem lG.monoc {M M':jI} (hm:mlc M M'):∀{ps:List VP} {vs:List Value},lG M ps vs→lG M' ps vs
 |[],[],_=>trivial
 |_::_,_::_,h=>⟨VP.monoc hm h.1,lG.monoc hm h.2⟩
 |[],_::_,h=>h.elim
 |_::_,[],h=>h.elim
theorem HA.ok.notin {e:HA} {M:jI} {w:World} {l:Nat} {o:Obj} (h:e.ok M w) (hl:M l=some o):e.β≠some l:=fun e=>by
 have:=h.2 l e
 rw [hl] at this;cases this
theorem HA.ok.less {e:HA} {M:jI} {w:World} {l:Nat} {r:Loop} (h:e.ok M w) (hl:M l=some (.loop r)):e.ok (M.less l) w:=by
 obtain⟨⟨vs,how,hall⟩,hn⟩:=h
 refine⟨⟨vs,how,hall.monoc (aHW hl)⟩,fun b hb=>?_⟩
 by_cases e:b=l
 ·rw [e];exact aAn M l
 ·rw [aBZ e];exact hn b hb
theorem St.less {S:Sx} {M:jI} {w:World} {H:List HA} {l:Nat} {r:Loop} (h:St S M w H) (hl:M l=some (.loop r)) (h0:S.M0 l=none) (hB:l∈S.B):St S (M.less l) w H:=by
 refine⟨fun b o hb=>?_,fun b o hb=>?_,h.keep,fun b hb hnb=>?_,h.size,h.os,h.tape,h.output,fun e he=>(h.own e he).less hl,h.fresh,h.nodup⟩
 ·by_cases e:b=l
  ·subst e;rw [h0] at hb;cases hb
  ·rw [aBZ e];exact h.le0 b o hb
 ·by_cases e:b=l
  ·subst e;rw [aAn] at hb;cases hb
  ·rw [aBZ e] at hb;exact h.mem b o hb
 ·rw [aBZ (fun e=>by subst e;exact hnb hB)];exact h.new b hb hnb
theorem St.more {S:Sx} {M:jI} {w:World} {H:List HA} {l:Nat} {o:Obj} (h:St S M w H) (hl:M l=none) (hw:w.heap[l]?=some o) (hB:l∈S.B∨S.w0.heap.size≤l) (hH:∀e∈H,e.β≠some l):St S (M.more l o) w H:=by
 refine⟨h.le0.trans (aCI hl),fun b o' hb=>?_,h.keep,fun b hb hnb=>?_,h.size,h.os,h.tape,h.output,fun e he=>?_,h.fresh,h.nodup⟩
 ·by_cases e:b=l
  ·subst e;rw [aC2] at hb;cases hb;exact hw
  ·rw [aC7 e] at hb;exact h.mem b o' hb
 ·rw [aC7 (fun e=>by
   rcases hB with h1|h1
   ·subst e;exact hnb h1
   ·omega)]
  exact h.new b hb hnb
 ·obtain⟨⟨vs,how,hall⟩,hn⟩:=h.own e he
  exact⟨⟨vs,how,hall.mono (aCI hl)⟩,fun b hb=>by rw [aC7 (fun x=>by subst x;exact hH e he hb)];exact hn b hb⟩
theorem St.turn {S:Sx} {M:jI} {w:World} {H:List HA} {l:Nat} (o:Obj) (h:St S M w H) (hl:M l=none) (hB:l∈S.B∨S.w0.heap.size≤l) (hH:∀e∈H,e.β≠some l):St S M (w.putObj l o) H:=by
 refine⟨h.le0,fun b o' hb=>?_,fun b hb hnb=>?_,h.new,by simpa using h.size,h.os,h.tape,h.output,fun e he=>?_,h.fresh,h.nodup⟩
 ·rw [World.putObj_heap_other (fun e=>by subst e;rw [hl] at hb;cases hb)];exact h.mem b o' hb
 ·rw [World.putObj_heap_other (fun e=>by
   rcases hB with h1|h1
   ·subst e;exact hnb h1
   ·omega)]
  exact h.keep b hb hnb
 ·obtain⟨⟨vs,how,hall⟩,hn⟩:=h.own e he
  exact⟨⟨vs,aC6 how fun b hb=>World.putObj_heap_other (fun x=>by subst x;exact hH e he hb),hall⟩,hn⟩
theorem St.callB {S:Sx} {M M':jI} {w w':World} {H Hin Hr Ho:List HA} {is js:List Nat} (h:St S M w H) (hi:cE H is=some Hin) (hj:cE H js=some Hr) (hn:(is++js).Nodup)
  {P:Program} {N:NX} {B:List Nat} (k:St ⟨P,w,M,B,N⟩ M' w' Ho) (hB:∀b∈B,b∈Hin.filterMap HA.β∨((b∈S.B∨S.w0.heap.size≤b)∧∀e∈H,e.β≠some b)):St S M' w' (Ho++Hr):=by
 have hin:∀e∈Hin,e∈H:=fun e he=>by
  obtain⟨j,hje⟩:=List.getElem?_of_mem he
  obtain⟨i,_,hi'⟩:=mI hi j e hje
  exact List.mem_of_getElem? hi'
 have hrm:∀e∈Hr,e∈H:=fun e he=>by
  obtain⟨j,hje⟩:=List.getElem?_of_mem he
  obtain⟨i,_,hi'⟩:=mI hj j e hje
  exact List.mem_of_getElem? hi'
 have hB2:∀b,b∈B→S.w0.heap.size≤b∨b∈S.B:=fun b hb=>by
  rcases hB b hb with hb|hb
  ·obtain⟨e,he,heb⟩:=List.mem_filterMap.1 hb
   exact h.fresh e (hin e he) b heb
  ·exact hb.1.symm
 have hdis:∀e∈Hr,∀b,e.β=some b→b∉B:=fun e he b hb hm=>by
  rcases hB b hm with hm|hm
  ·obtain⟨x,hx,hxb⟩:=List.mem_filterMap.1 hm
   obtain⟨j1,h1⟩:=List.getElem?_of_mem he
   obtain⟨j2,h2⟩:=List.getElem?_of_mem hx
   obtain⟨i1,e1,g1⟩:=mI hj j1 e h1
   obtain⟨i2,e2,g2⟩:=mI hi j2 x h2
   have:=aAm h.nodup g1 g2 hb hxb
   subst this
   exact(List.nodup_append.1 hn).2.2 i1 (List.mem_of_getElem? e2) i1 (List.mem_of_getElem? e1) rfl
  ·exact hm.2 e (hrm e he) hb
 have hlt:∀e∈Hr,∀b,e.β=some b→b<w.heap.size:=fun e he b hb=>(h.own e (hrm e he)).lt hb
 have hr:St S M w Hr:=h.pick hj (List.nodup_append.1 hn).2.1
 refine⟨h.le0.trans k.le0,k.mem,fun b hb hnb=>?_,fun b hb hnb=>?_,Nat.le_trans h.size k.size,k.os.trans h.os,k.tape.trans h.tape,k.output.trans h.output,fun e he=>?_,fun e he b hb=>?_,?_⟩
 ·rw [k.keep b (Nat.lt_of_lt_of_le hb h.size) (fun hm=>by rcases hB2 b hm with h1|h1;omega;exact hnb h1)]
  exact h.keep b hb hnb
 ·rw [k.new b (Nat.lt_of_lt_of_le hb h.size) (fun hm=>by rcases hB2 b hm with h1|h1;omega;exact hnb h1)]
  exact h.new b hb hnb
 ·rcases List.mem_append.1 he with he|he
  ·exact k.own e he
  ·obtain⟨⟨vs,how,hall⟩,hnone⟩:=hr.own e he
   refine⟨⟨vs,aC6 how (fun b hb=>k.keep b (hlt e he b hb) (hdis e he b hb)),bB.mono k.le0 hall⟩,fun b hb=>?_⟩
   rw [k.new b (hlt e he b hb) (hdis e he b hb)];exact hnone b hb
 ·rcases List.mem_append.1 he with he|he
  ·rcases k.fresh e he b hb with h1|h1
   ·exact .inl (Nat.le_trans h.size h1)
   ·exact hB2 b h1
  ·exact hr.fresh e he b hb
 ·rw [List.filterMap_append]
  refine List.nodup_append.2 ⟨k.nodup,hr.nodup,fun x hx y hy hxy=>?_⟩
  subst hxy
  obtain⟨e,he,heb⟩:=List.mem_filterMap.1 hx
  obtain⟨e',he',heb'⟩:=List.mem_filterMap.1 hy
  rcases k.fresh e he x heb with h1|h1
  ·have h2:=hlt e' he' x heb'
   exact absurd h1 (by simpa using h2)
  ·exact hdis e' he' x heb' h1
def RdP (P:Program) (w:World) (M:jI) (B:List Nat) (l:Nat) (x:LX) (jump:Nat→Code) (post:Nat→List HA→Prop) (w':World) (j:Nat):Prop:=
 ∃M' Ho,post j Ho∧w'.heap[l]?=some (rcS x jump j)∧St ⟨P,w,M,l::B,0⟩ M' w' Ho∧M' l=none∧∀e∈Ho,e.β≠some l
structure CtY (P:Program) (l:Nat) (x:LX) (jump:Nat→Code) (Mb:jI) (Hin:List HA) (pre:List VP) (post:Nat→List HA→Prop):Prop where
 run:∀M w (args:Array Value),mlc Mb M→Mok M w→(∀e∈Hin,e.ok M w)→(Hin.filterMap HA.β).Nodup→lG M pre args.toList→w.heap[l]?=some (rcS x jump 0)→M l=none→(∀e∈Hin,e.β≠some l)→
  YieldAt Fence.wide 0 P l args w fun e w'=>∃j,e=.returned (.bool (Nat.beq j 0))∧RdP P w M (Hin.filterMap HA.β) l x jump post w' j
section
variable {S:Sx} {κ:Kt} {H H':List HA} {E:sN} {ops:Array Oper} {rest:List Oper} {o:Oper}
abbrev Sx.rc (S:Sx) (l:Nat) (o:Obj):Sx:=⟨S.P,S.w0,S.M0,S.B,⟨S.N.n,S.N.fr,S.N.rd,some (l,o)⟩⟩
theorem St.reS {S:Sx} {M:jI} {w:World} {H:List HA} (h:St S M w H) (N:NX):St ⟨S.P,S.w0,S.M0,S.B,N⟩ M w H:=
 ⟨h.le0,h.mem,h.keep,h.new,h.size,h.os,h.tape,h.output,h.own,h.fresh,h.nodup⟩
theorem aNu {l d:Nat} {x:LX} {jump:Nat→Code} {Hin Hr:List HA} {post:Nat→List HA→Prop} {a:Act} {w w':World} {M:jI} {j:Nat} (is js:List Nat) (hrc:S.N.rc=some (l,rcS x jump 0)) (hlB:l∈S.B) (h0:S.M0 l=none)
  (h1:cE H is=some Hin) (h2:cE H js=some Hr) (hn:(is++js).Nodup) (hst:St S M w H) (hsat:Sat S.N M a E) (hd:o.dst=some d) (hN:Nat.blt d S.N=true) (hr:RdP S.P w (M.less l) (Hin.filterMap HA.β) l x jump post w' j):
  ∃Ho,post j Ho∧hs (S.rc l (rcS x jump j)) (Ho++Hr) ((d,.vc (pB (Nat.beq j 0)))::E) (a.put o.dst (.bool (Nat.beq j 0))) w':=by
 obtain⟨M',Ho,hp,hl',hst',hno,hHo⟩:=hr
 have hM:M l=some (rcS x jump 0):=hsat.defers.2.2 l _ hrc
 obtain⟨r0,er0⟩:=aEp x jump 0
 rw [er0] at hM
 have hH:∀e∈H,e.β≠some l:=fun e he=>(hst.own e he).notin hM
 have hless:=hst.less hM h0 hlB
 have hcall:=hless.callB (is:=is) (js:=js) h1 h2 hn hst' fun b hb=>by
  rcases List.mem_cons.1 hb with rfl|hb
  ·exact .inr ⟨.inl hlB,hH⟩
  ·exact .inl hb
 have hHr:∀e∈Ho++Hr,e.β≠some l:=fun e he=>by
  rcases List.mem_append.1 he with he|he
  ·exact hHo e he
  ·obtain⟨k,hk⟩:=List.getElem?_of_mem he
   obtain⟨i,_,hi⟩:=mI h2 k e hk
   exact hH e (List.mem_of_getElem? hi)
 have hfin:=hcall.more hno hl' (.inl hlB) hHr
 have hmc:mlc M (M'.more l (rcS x jump j)):=(aHW hM).trans (hst'.le0.trans (aCI hno)).c
 have hne:∀b ob,M b=some ob→b≠l→M'.more l (rcS x jump j) b=some ob:=fun b ob hb e=>by
  rw [aC7 e];exact hst'.le0 b ob (by show M.less l b=_;rw [aBZ e];exact hb)
 refine⟨Ho,hp,_,hfin.reS _,?_⟩
 rw [hd]
 refine Sat.put (N:=(S.rc l (rcS x jump j)).N) ⟨hsat.size,⟨fun dd hdd=>?_,hsat.defers.2.1,fun l' o' e=>?_⟩,fun d p hl=>?_⟩ hN rfl
 ·obtain⟨D,e1,e2,e3⟩:=hsat.defers.1 dd hdd
  exact⟨D,e1,e2,hne D _ e3 fun e=>by subst e;rw [hM] at e3;cases e3⟩
 ·simp only [Option.some.injEq,Prod.mk.injEq] at e
  obtain⟨rfl,rfl⟩:=e
  exact aC2 _ _ _
 ·obtain⟨v,e1,e2⟩:=hsat.get d p hl
  exact⟨v,e1,VP.monoc hmc e2⟩
theorem aKW {l:Nat} {x:LX} {jump:Nat→Code} {Mb:jI} {Hin:List HA} {pre:List VP} {post:Nat→List HA→Prop} {xs:List Operand} {y:Operand} {ts:Array TypeId} {a:Act} {w:World} {M:jI} {K:Act→World→Prop} {Q:Exit→Act→World→Prop} (is:List Nat) (ho:o.op=.call {callee:=.value y,args:=xs.toArray,argTypes:=ts}) (c:CtY S.P l x jump Mb Hin pre post) (hrc:S.N.rc=some (l,rcS x jump 0)) (h0:S.M0 l=none) (hlB:l∈S.B) (hMb:mlc Mb S.M0)
  (h1:cE H is=some Hin) (hn:is.Nodup) (hst:St S M w H) (hsat:Sat S.N M a E) (hi:yD E ((y,.vc (pY l))::xs.zip pre)) (hl:xs.length=pre.length)
  (k:∀j w',RdP S.P w (M.less l) (Hin.filterMap HA.β) l x jump post w' j→K (a.put o.dst (.bool (Nat.beq j 0))) w'):o.wpIn S.F 0 S.P a w K Q:=by
 have hins:=yD.ins hsat hi
 have hall:=lG.of_ins hl hins.2
 have hy:a.eval y=.func (.yield l) #[] #[]:=hins.1
 have hM:M l=some (rcS x jump 0):=hsat.defers.2.2 l _ hrc
 obtain⟨r0,er0⟩:=aEp x jump 0
 have hM':=hM
 rw [er0] at hM'
 have hin:=hst.pick h1 hn
 have hmc:=aHW hM'
 obtain⟨fn,tm,asg,bd,hr1,hr2⟩:=c.run (M.less l) w (xs.map a.eval).toArray ((hMb.trans hst.le0.c).trans hmc) (hst.less hM' h0 hlB).mem (fun e he=>(hin.own e he).less hM') hin.nodup (by simpa using hall.monoc hmc) (hst.mem l _ hM) (aAn M l) (fun e he=>(hin.own e he).notin hM')
 have hx:(execOp a.eval o).run S.P w=.ok (.round l fn tm asg bd) w:=by
  simp [execOp,ho,resolve,Deferred.ofValue,hy,invoke,hr1]
 refine⟨fun _ _=>trivial,?_⟩
 rw [aEB _ hx (fun d h=>by cases h)]
 refine⟨fun h=>by simp [Fence.wide] at h,RoundIn.mono (F:=Fw S.N.rd) hr2 fun e w' h=>?_⟩
 obtain⟨j,rfl,hp⟩:=h
 exact k j w' hp
theorem aR6 {l d:Nat} {x:LX} {jump:Nat→Code} {Mb:jI} {Hin Hr:List HA} {pre:List VP} {post:Nat→List HA→Prop} {xs:List Operand} {y:Operand} {ts:Array TypeId} (is js:List Nat) (ho:o.op=.call {callee:=.value y,args:=xs.toArray,argTypes:=ts}) (c:CtY S.P l x jump Mb Hin pre post) (h0:S.M0 l=none) (hMb:mlc Mb S.M0) (hi:yD E ((y,.vc (pY l))::xs.zip pre)) (h1:cE H is=some Hin) (h2:cE H js=some Hr)
  (k0:∀Ho,post 0 Ho→WL S ops κ rest (Ho++Hr) ((d,.vc (pB true))::E)) (k1:∀j Ho,post (j+1) Ho→WL (S.rc l (rcS x jump (j+1))) ops κ rest (Ho++Hr) ((d,.vc (pB false))::E))
  (hn:(is++js).Nodup:=by decide) (hrc:S.N.rc=some (l,rcS x jump 0):=by rfl) (hlB:l∈S.B:=by exact List.mem_cons_self) (hl:xs.length=pre.length:=by rfl) (hd:o.dst=some d:=by rfl) (hg:o.guard=none:=by rfl) (hN:Nat.blt d S.N=true:=by rfl):WL S ops κ (o::rest) H E:=by
 rintro a w ⟨M,hst,hsat⟩
 refine wpListIn_plain hg fun K hK=>aKW is ho c hrc h0 hlB hMb h1 (List.nodup_append.1 hn).1 hst hsat hi hl fun j w' hr=>?_
 obtain⟨Ho,hp,hh⟩:=aNu is js hrc hlB h0 h1 h2 hn hst hsat hd hN hr
 cases j with
 |zero=>
  refine hK _ _ (k0 Ho hp _ _ ?_)
  have e:S.rc l (rcS x jump 0)=S:=by
   cases S with|mk P w0 M0 B N=>cases N with|mk n fr rd rc=>cases hrc;rfl
  rw [e] at hh;exact hh
 |succ j=>exact hK _ _ (k1 j Ho hp _ _ hh)
theorem aQ2 {l d jg dj:Nat} {bg:Bool} {og:Oper} {x:LX} {jump:Nat→Code} {Mb:jI} {Hin Hr:List HA} {pre:List VP} {post:Nat→List HA→Prop} {xs:List Operand} {y:Operand} {ts:Array TypeId} (is js:List Nat) (ho:o.op=.call {callee:=.value y,args:=xs.toArray,argTypes:=ts}) (c:CtY S.P l x jump Mb Hin pre post) (h0:S.M0 l=none) (hMb:mlc Mb S.M0) (hi:yD E ((y,.vc (pY l))::xs.zip pre)) (h1:cE H is=some Hin) (h2:cE H js=some Hr)
  (k0:∀Ho,post 0 Ho→WL S ops κ rest (Ho++Hr) ((d,.vc (pB true))::E)) (k1:∀j Ho,post (j+1) Ho→WL (S.rc l (rcS x jump (j+1))) ops κ rest (Ho++Hr) ((d,.vc (pB false))::E))
  (hn:(is++js).Nodup:=by decide) (hrc:S.N.rc=some (l,rcS x jump 0):=by rfl) (hlB:l∈S.B:=by exact List.mem_cons_self) (hl:xs.length=pre.length:=by rfl) (hd:o.dst=some d:=by rfl) (hg:o.guard=some (jg,bg):=by rfl) (hj:ops[jg]?=some og:=by rfl) (hdj:og.dst=some dj:=by rfl) (hlk:jG E dj=some (.vc (pB bg)):=by rfl) (hN:Nat.blt d S.N=true:=by rfl):WL S ops κ (o::rest) H E:=by
 rintro a w ⟨M,hst,hsat⟩
 refine wpListIn_step fun K hK=>?_
 rw [if_pos (by simp [Region.wanted,hg,aD0 hsat hj hdj hlk])]
 refine aKW is ho c hrc h0 hlB hMb h1 (List.nodup_append.1 hn).1 hst hsat hi hl fun j w' hr=>?_
 obtain⟨Ho,hp,hh⟩:=aNu is js hrc hlB h0 h1 h2 hn hst hsat hd hN hr
 cases j with
 |zero=>
  refine hK _ _ (k0 Ho hp _ _ ?_)
  have e:S.rc l (rcS x jump 0)=S:=by
   cases S with|mk P w0 M0 B N=>cases N with|mk n fr rd rc=>cases hrc;rfl
  rw [e] at hh;exact hh
 |succ j=>exact hK _ _ (k1 j Ho hp _ _ hh)
end
structure CtI (P:Program) (f l:Nat) (x:LX) (jump:Nat→Code) (Mb:jI) (Hin:List HA) (pre:List VP) (post:Nat→List HA→Prop):Prop where
 ok:aRa P f
 run:∀M w (args:Array Value),mlc Mb M→Mok M w→(∀e∈Hin,e.ok M w)→(Hin.filterMap HA.β).Nodup→lG M pre args.toList→w.heap[l]?=some (rcS x jump 0)→M l=none→(∀e∈Hin,e.β≠some l)→
  Calls P f args w fun e w'=>∃v j,e=.returned v∧RdP P w M (Hin.filterMap HA.β) l x jump post w' j
def RpI (P:Program) (w0:World) (M0:jI) (B:List Nat) (l:Nat) (x:LX) (jump:Nat→Code) (post:Nat→List HA→Prop):Ending→World→Prop:=fun e w'=>∃v j,e=.returned v∧RdP P w0 M0 B l x jump post w' j
theorem aG4 {P:Program} {f l:Nat} {x:LX} {jump:Nat→Code} {Mb:jI} {fn:Func} {c:Code} {Hin:List HA} {pre:List VP} {post:Nat→List HA→Prop} {N:Nat} (hf:P.funcs[f]?=some fn) (hb:fn.body=some c) (hname:(fn.name== "runtime.NumGoroutine")=false) (hN:fn.ntmps=N) (hpre:Nat.ble pre.length N=true)
  (h:∀w0 M0,M0 l=none→mlc Mb M0→WC ⟨P,w0,M0,l::Hin.filterMap HA.β,⟨N,fun D=>w0.heap.size≤D∧M0 D=none,none,some (l,rcS x jump 0)⟩⟩ c (.base (aGf P fn (RpI P w0 M0 (Hin.filterMap HA.β) l x jump post))) Hin (aE0 0 pre)):CtI P f l x jump Mb Hin pre post:=by
 refine⟨⟨fn,hf,hname,by simp [hb]⟩,fun M w args hMb hm hown hnd hall hl hMl hH=>(callsIn_wide (n:=0)).1 (callsIn_of_wp_marks hf hb trivial (h w M hMl hMb _ w ⟨M.more l (rcS x jump 0),?_,?_⟩))⟩
 ·refine St.more (S:=⟨P,w,M,l::Hin.filterMap HA.β,_⟩) ⟨oX.refl M,hm,fun _ _ _=>rfl,fun _ _ _=>rfl,Nat.le_refl _,rfl,rfl,rfl,hown,fun e he b hb'=>.inr (List.mem_cons_of_mem _ (List.mem_filterMap.2 ⟨e,he,hb'⟩)),hnd⟩ hMl hl (.inl List.mem_cons_self) hH
 ·have hln:=hall.len
  have hle:pre.length≤N:=by simpa using hpre
  refine⟨?_,⟨fun d hd=>(by cases hd),List.nodup_nil,fun l' o e=>?_⟩,fun d p hd=>?_⟩
  ·subst hN
   simp only [Array.length_toList] at hln
   simp;omega
  ·simp only [Option.some.injEq,Prod.mk.injEq] at e
   obtain⟨rfl,rfl⟩:=e
   exact aC2 _ _ _
  ·obtain⟨_,hp⟩:=aDx pre 0 d p hd
   obtain⟨v,hv,hpv⟩:=hall.at d (by simpa using hp)
   refine⟨v,?_,VP.mono (aCI hMl) hpv⟩
   have hdl:d<args.size:=by
    have:=(List.getElem?_eq_some_iff.1 hv).1
    simpa using this
   rw [Array.getElem?_append_left hdl]
   simpa using hv
section
variable {H:List HA} {E:sN}
theorem aRz {P:Program} {w0:World} {M0:jI} {B:List Nat} {N:NX} {l:Nat} {x:LX} {jump:Nat→Code} {post:Nat→List HA→Prop} {j:Nat} {M:jI} {w:World} {Ho:List HA} (h:St ⟨P,w0,M0,l::B,N⟩ M w Ho) (hM:M l=some (rcS x jump j)) (h0:M0 l=none) (hp:post j Ho):RdP P w0 M0 B l x jump post w j:=by
 obtain⟨r0,er0⟩:=aEp x jump j
 have hM':=hM
 rw [er0] at hM'
 exact⟨M.less l,Ho,hp,h.mem l _ hM,(h.less hM' h0 List.mem_cons_self).reS 0,aAn M l,fun e he=>(h.own e he).notin hM'⟩
theorem aFv {P:Program} {fn:Func} {w0:World} {M0:jI} {B:List Nat} {l:Nat} {x:LX} {jump:Nat→Code} {post:Nat→List HA→Prop} {N:NX} {e:Exit} {Ho:List HA} (j:Nat) (he:e=.ret∨e=.normal) (hrs:fn.results=#[]) (h0:M0 l=none) (bI:∀M w,St ⟨P,w0,M0,l::B,N⟩ M w H→St ⟨P,w0,M0,l::B,N⟩ M w Ho) (hpost:post j Ho) (hrc:N.rc=some (l,rcS x jump j):=by rfl) (hfr:∀D,N.fr D→w0.heap.size≤D∧M0 D=none:=by exact fun _ h=>h):
  WX ⟨P,w0,M0,l::B,N⟩ e (.base (aGf P fn (RpI P w0 M0 B l x jump post))) H E:=by
 rintro a w ⟨M,h1,h2⟩
 have hM:M l=some (rcS x jump j):=h2.defers.2.2 l _ hrc
 have key:LeavesInM Fence.wide 0 P fn a.tmps (RpI P w0 M0 B l x jump post) a.defers .returning w:=by
  refine aCl (S:=⟨P,w0,M0,l::B,N⟩) a.defers M w h1 (fun d hd=>?_) h2.defers.2.1 fun M' w' hmd h1'=>?_
  ·obtain⟨D,e1,e2,e3⟩:=h2.defers.1 d hd
   exact⟨D,e1,hfr D e2,e3⟩
  have hres:(results fn a.tmps).run P w'=.ok (.tuple #[]) w':=by
   have e:results fn a.tmps=(do let vs ←fn.results.mapM (aFN a.tmps);pure (if h:vs.size=1 then vs[0] else .tuple vs)):=rfl
   rw [e,hrs];simp
  refine⟨_,hres,_,j,rfl,aRz (bI _ _ h1') (hmd l _ hM fun ds=>?_) h0 hpost⟩
  obtain⟨r0,er0⟩:=aEp x jump j
  rw [er0];simp
 rcases he with rfl|rfl<;>exact key
theorem aBv {S:Sx} {Ho:List HA} (is:List Nat) (hp:cE H is=some Ho) (hn:is.Nodup:=by decide):∀M w,St S M w H→St S M w Ho:=fun M w h=>h.pick hp hn
theorem aEK {S:Sx} {R Ho:List HA} (m:Nat) (is:List Nat) (hd:H.drop m=R) (hp:cE (H.take m) is=some Ho) (hn:is.Nodup:=by decide):∀M w,St S M w H→St S M w (Ho++R):=fun M w h=>by
 rw [←List.take_append_drop m H,hd] at h
 exact h.split hp hn
def TE (n:Nat) (E:sN) (Mb:jI) (tmps:Array Value):Prop:=tmps.size=n∧∀d p,jG E d=some p→∃v,tmps[d]?=some v∧p.h Mb v
def RpR (P:Program) (w0:World) (M0:jI) (B:List Nat) (l:Nat) (x:LX) (jump:Nat→Code) (post:Nat→List HA→Prop):Ending→World→Prop:=fun e w'=>∃j,e=.returned (.bool (Nat.beq j 0))∧RdP P w0 M0 B l x jump post w' j
def Qas (P:Program) (l:Nat) (body:Code) (R:Ending→World→Prop):Exit→Act→World→Prop:=
 Exit.then (fun a₁ w₁=>∃w₂,(Instr.beginRound l).run P w₁=.ok () w₂∧body.wpIn (Fw (some l)) 0 P (roundPost P l R) a₁ w₂) (fun _ _ _=>False)
theorem aG5 {P:Program} {l n t:Nat} {x:LX} {jump:Nat→Code} {Mb:jI} {Hin:List HA} {p:VP} {post:Nat→List HA→Prop} (ht:TE n E Mb x.tmps) (hps:x.ps=#[t]) (hN:Nat.blt t n=true)
  (h:∀w0 M0,M0 l=none→mlc Mb M0→WC ⟨P,w0,M0,l::Hin.filterMap HA.β,⟨n,fun _=>False,some l,some (l,rcS x jump 0)⟩⟩ x.asg (.base (Qas P l x.bd (RpR P w0 M0 (Hin.filterMap HA.β) l x jump post))) Hin ((t,p)::E)):CtY P l x jump Mb Hin [p] post:=by
 refine⟨fun M w args hMb hm hown hnd hall hl hMl hH=>?_⟩
 obtain⟨v,rfl⟩:∃v,args=#[v]:=by
  have hln:=hall.len
  match args,hln with
  |⟨[v]⟩,_=>exact⟨v,rfl⟩
 have hv:p.h M v:=hall.1
 have hy:=run_yield (P:=P) (args:=#[v]) (r:=x.at .ready none) hl (by show 1=x.ps.size;rw [hps];rfl)
 refine⟨_,_,_,_,hy,roundIn_of_wpIn trivial ?_⟩
 refine h w M hMl hMb _ w ⟨M.more l (rcS x jump 0),?_,?_⟩
 ·exact St.more (S:=⟨P,w,M,l::Hin.filterMap HA.β,_⟩) ⟨oX.refl M,hm,fun _ _ _=>rfl,fun _ _ _=>rfl,Nat.le_refl _,rfl,rfl,rfl,hown,fun e he b hb'=>.inr (List.mem_cons_of_mem _ (List.mem_filterMap.2 ⟨e,he,hb'⟩)),hnd⟩ hMl hl (.inl List.mem_cons_self) hH
 ·have hmc:mlc Mb (M.more l (rcS x jump 0)):=hMb.trans (aCI hMl).c
  have htm:(((x.at .ready none).params.zip #[v]).foldl (fun t (p,v)=>t.setIfInBounds p v) (x.at .ready none).tmps)=x.tmps.setIfInBounds t v:=by
   show((x.ps.zip #[v]).foldl _ x.tmps)=_
   rw [hps];simp
  have h0:Sat ⟨n,fun _=>False,some l,some (l,rcS x jump 0)⟩ (M.more l (rcS x jump 0)) {tmps:=x.tmps,defers:=[]} E:=
   ⟨ht.1,⟨fun d hd=>(by cases hd),List.nodup_nil,fun l' o e=>by
    simp only [Option.some.injEq,Prod.mk.injEq] at e
    obtain⟨rfl,rfl⟩:=e
    exact aC2 _ _ _⟩,fun d q hd=>let ⟨u,e1,e2⟩:=ht.2 d q hd;⟨u,e1,VP.monoc hmc e2⟩⟩
  have h1:=h0.put (d:=t) (v:=v) (p:=p) hN (VP.mono (aCI hMl) hv)
  show Sat _ _ {tmps:=_,defers:=[]} _
  rw [htm];exact h1
theorem aKQ {P:Program} {w0:World} {M0:jI} {B:List Nat} {n l:Nat} {fr:Nat→Prop} {x:LX} {jump:Nat→Code} {R:Ending→World→Prop} {body:Code} (h0:M0 l=none)
  (h:WC ⟨P,w0,M0,l::B,⟨n,fr,some l,some (l,rcB x)⟩⟩ body (.base (roundPost P l R)) H E):WX ⟨P,w0,M0,l::B,⟨n,fr,some l,some (l,rcS x jump 0)⟩⟩ .normal (.base (Qas P l body R)) H E:=by
 rintro a w ⟨M,h1,h2⟩
 have hM:M l=some (.loop (x.at .ready none)):=h2.defers.2.2 l _ rfl
 have hH:∀e∈H,e.β≠some l:=fun e he=>(h1.own e he).notin hM
 have hlt:=(Array.getElem?_eq_some_iff.1 (h1.mem l _ hM)).1
 refine⟨w.putObj l (rcB x),run_beginRound (h1.mem l _ hM) rfl,h a _ ⟨(M.less l).more l (rcB x),?_,?_⟩⟩
 ·exact((((h1.less hM h0 List.mem_cons_self).turn (rcB x) (aAn M l) (.inl List.mem_cons_self) hH).more (aAn M l) (World.putObj_heap_same hlt) (.inl List.mem_cons_self) hH)).reS _
 ·have hmc:mlc M ((M.less l).more l (rcB x)):=(aHW hM).trans (aCI (aAn M l)).c
  refine⟨h2.size,⟨fun d hd=>?_,h2.defers.2.1,fun l' o e=>?_⟩,fun d p hd=>let ⟨v,e1,e2⟩:=h2.get d p hd;⟨v,e1,VP.monoc hmc e2⟩⟩
  ·obtain⟨D,e1,e2,e3⟩:=h2.defers.1 d hd
   have hne:D≠l:=fun e=>by subst e;rw [hM] at e3;cases e3
   exact⟨D,e1,e2,by rw [aC7 hne,aBZ hne];exact e3⟩
  ·simp only [Option.some.injEq,Prod.mk.injEq] at e
   obtain⟨rfl,rfl⟩:=e
   exact aC2 _ _ _
theorem aKj {P:Program} {w0:World} {M0:jI} {B:List Nat} {N:NX} {l:Nat} {x:LX} {jump:Nat→Code} {post:Nat→List HA→Prop} {M:jI} {w:World} {Ho:List HA} (j:Nat) (h:St ⟨P,w0,M0,l::B,N⟩ M w Ho) (hM:M l=some (rcB x)) (h0:M0 l=none) (hp:post j Ho):RdP P w0 M0 B l x jump post (w.putObj l (rcS x jump j)) j:=by
 have hH:∀e∈Ho,e.β≠some l:=fun e he=>(h.own e he).notin hM
 have hlt:=(Array.getElem?_eq_some_iff.1 (h.mem l _ hM)).1
 exact⟨M.less l,Ho,hp,World.putObj_heap_same hlt,((h.less hM h0 List.mem_cons_self).turn _ (aAn M l) (.inl List.mem_cons_self) hH).reS 0,aAn M l,hH⟩
theorem aK9 {P:Program} {w0:World} {M0:jI} {B:List Nat} {N:NX} {l:Nat} {x:LX} {jump:Nat→Code} {post:Nat→List HA→Prop} {Ho:List HA} (h0:M0 l=none) (bI:∀M w,St ⟨P,w0,M0,l::B,N⟩ M w H→St ⟨P,w0,M0,l::B,N⟩ M w Ho) (hpost:post 0 Ho) (hrc:N.rc=some (l,rcB x):=by rfl):WX ⟨P,w0,M0,l::B,N⟩ .normal (.base (roundPost P l (RpR P w0 M0 B l x jump post))) H E:=by
 rintro a w ⟨M,h1,h2⟩
 have hM:=h2.defers.2.2 l _ hrc
 exact⟨_,_,run_endRound none (h1.mem l _ hM),0,rfl,aKj 0 (bI _ _ h1) hM h0 hpost⟩
theorem aSf {P:Program} {w0:World} {M0:jI} {B:List Nat} {N:NX} {l:Nat} {x:LX} {jump:Nat→Code} {post:Nat→List HA→Prop} {Ho:List HA} (j:Nat) (hj:jump j=.ret) (h0:M0 l=none) (bI:∀M w,St ⟨P,w0,M0,l::B,N⟩ M w H→St ⟨P,w0,M0,l::B,N⟩ M w Ho) (hpost:post (j+1) Ho) (hrc:N.rc=some (l,rcB x):=by rfl):WX ⟨P,w0,M0,l::B,N⟩ .ret (.base (roundPost P l (RpR P w0 M0 B l x jump post))) H E:=by
 rintro a w ⟨M,h1,h2⟩
 have hM:=h2.defers.2.2 l _ hrc
 have:=aKj (jump:=jump) (j+1) (bI _ _ h1) hM h0 hpost
 refine⟨_,_,run_endRound (some .ret) (h1.mem l _ hM),j+1,rfl,?_⟩
 rw [←hj];exact this
theorem aSj {P:Program} {w0:World} {M0:jI} {B:List Nat} {N:NX} {l id:Nat} {x:LX} {jump:Nat→Code} {post:Nat→List HA→Prop} {Ho:List HA} (j:Nat) (hj:jump j=.exit id) (h0:M0 l=none) (bI:∀M w,St ⟨P,w0,M0,l::B,N⟩ M w H→St ⟨P,w0,M0,l::B,N⟩ M w Ho) (hpost:post (j+1) Ho) (hrc:N.rc=some (l,rcB x):=by rfl):WX ⟨P,w0,M0,l::B,N⟩ (.exit id) (.base (roundPost P l (RpR P w0 M0 B l x jump post))) H E:=by
 rintro a w ⟨M,h1,h2⟩
 have hM:=h2.defers.2.2 l _ hrc
 have:=aKj (jump:=jump) (j+1) (bI _ _ h1) hM h0 hpost
 refine⟨_,_,run_endRound (some (.exit id)) (h1.mem l _ hM),j+1,rfl,?_⟩
 rw [←hj];exact this
end
section
variable {S:Sx} {κ:Kt} {H:List HA} {E:sN}
theorem aN2 {rd:Option Nat} {n:Nat} {P:Program} {f:Nat} {args:Array Value} {w:World} {R:Ending→World→Prop} (h:Calls P f args w R):CallsIn (Fw rd) n P f args w R:=(callsIn_wide (n:=n)).2 h
theorem aKE (w:World) (o:Obj) (i:Nat) (h:i<w.heap.size):(w.alloc o).heap[i]?=w.heap[i]?:=by
 show(w.heap.push o)[i]?=w.heap[i]?
 rw [Array.getElem?_push,if_neg (Nat.ne_of_lt h)]
theorem aPj {D l:Nat} {w w1 w2:World} {M M':jI} {a:Act} {Hin Hr Ho:List HA} {is js:List Nat} (hDe:D=w.heap.size) (hle:l=w.heap.size+1) (hsz:w1.heap.size=w.heap.size+2) (hst:St S M w H) (hst1:St S M w1 H) (hsat:Sat S.N M a E) (h1:cE H is=some Hin) (h2:cE H js=some Hr) (hn:(is++js).Nodup) (hMD:M D=none) (hHl:∀e∈H,∀b,e.β=some b→b<w.heap.size)
  (hst2:St ⟨S.P,w1,M,l::Hin.filterMap HA.β,0⟩ M' w2 Ho) (hno:M' l=none) (hHo:∀e∈Ho,e.β≠some l) (hD1:w1.heap[D]?=some (.deferred (some []))) (hrc:S.N.rc=none) (hfr:∀D,S.w0.heap.size≤D∧S.M0 D=none→S.N.fr D):∀o3,hs S (Ho++Hr) E {a with defers:=[{target:=.collected D,args:=#[]}]++a.defers} (w2.putObj l o3):=by
 have hmem:∀{L:List Nat} {X:List HA},cE H L=some X→∀e∈X,e∈H:=fun hp e he=>by
  obtain⟨j,hj⟩:=List.getElem?_of_mem he
  obtain⟨i,_,hi⟩:=mI hp j e hj
  exact List.mem_of_getElem? hi
 have hlH:∀e∈H,e.β≠some l:=fun e he hb=>by have:=hHl e he l hb;omega
 have hDH:∀e∈H,e.β≠some D:=fun e he hb=>by have:=hHl e he D hb;omega
 have hc:=hst1.callB (is:=is) (js:=js) h1 h2 hn hst2 fun b hb=>by
  rcases List.mem_cons.1 hb with rfl|hb
  ·exact .inr ⟨.inr (by have:=hst.size;omega),hlH⟩
  ·exact .inl hb
 have hDB:D∉l::Hin.filterMap HA.β:=fun hb=>by
  rcases List.mem_cons.1 hb with h|h
  ·omega
  ·obtain⟨e,he,heb⟩:=List.mem_filterMap.1 h
   exact hDH e (hmem h1 e he) heb
 have hDlt:D<w1.heap.size:=by omega
 have hHr:∀b,(b=l∨b=D)→∀e∈Ho++Hr,e.β≠some b:=fun b hb e he=>by
  rcases List.mem_append.1 he with he|he
  ·rcases hb with rfl|rfl
   ·exact hHo e he
   ·intro heb
    rcases hst2.fresh e he _ heb with h|h
    ·exact absurd h (Nat.not_le.2 hDlt)
    ·exact hDB h
  ·rcases hb with rfl|rfl
   ·exact hlH e (hmem h2 e he)
   ·exact hDH e (hmem h2 e he)
 have hMD':M' D=none:=(hst2.new D hDlt hDB).trans hMD
 have hD2:w2.heap[D]?=some (.deferred (some [])):=(hst2.keep D hDlt hDB).trans hD1
 have hne:D≠l:=by omega
 intro o3
 have t1:=hc.turn o3 hno (.inr (by have:=hst.size;omega)) (hHr l (.inl rfl))
 have t2:=t1.more hMD' ((World.putObj_heap_other hne).trans hD2) (.inr (by have:=hst.size;omega)) (hHr D (.inr rfl))
 have hmm:oX M (M'.more D (.deferred (some []))):=hst2.le0.trans (aCI hMD')
 refine⟨_,t2,hsat.size,⟨fun d hd=>?_,?_,fun l' o' e=>by rw [hrc] at e;cases e⟩,fun d p hd=>let ⟨v,e1,e2⟩:=hsat.get d p hd;⟨v,e1,VP.mono hmm e2⟩⟩
 ·rcases List.mem_cons.1 hd with rfl|hd
  ·refine⟨D,rfl,hfr D ⟨by have:=hst.size;omega,?_⟩,aC2 _ _ _⟩
   cases h0:S.M0 D with
   |none=>rfl
   |some ob=>have:=hst.le0 D ob h0;rw [hMD] at this;cases this
  ·obtain⟨D',e1,e2,e3⟩:=hsat.defers.1 d hd
   exact⟨D',e1,e2,hmm _ _ e3⟩
 ·refine List.nodup_cons.2 ⟨fun hd=>?_,hsat.defers.2.1⟩
  obtain⟨D',e1,_,e3⟩:=hsat.defers.1 _ hd
  simp only [Deferred.mk.injEq,Target.collected.injEq,and_true] at e1
  rw [←e1,hMD] at e3;cases e3
theorem aSQ {g gf:Nat} {ps:Array Tmp} {assign body:Code} {cs:List CP} {Hin Hr:List HA} {jump:Nat→Code} {post:Nat→List HA→Prop} (is js:List Nat) (hg:jG E g=some (.vc (pF gf cs))) (h1:cE H is=some Hin) (h2:cE H js=some Hr)
  (hit:∀(x:LX) (l:Nat) (Mb:jI),x.ps=ps→x.asg=assign→x.bd=body→TE S.N.n E Mb x.tmps→CtI S.P gf l x jump Mb Hin (.vc (pY l)::cs.map .vc) post)
  (knext:∀Ho,post 0 Ho→WX S .normal κ (Ho++Hr) E) (kstop:∀j Ho,post (j+1) Ho→WC S (jump j) κ (Ho++Hr) E)
  (hn:(is++js).Nodup:=by decide) (hrd:S.N.rd=none:=by rfl) (hrc:S.N.rc=none:=by rfl) (hfr:∀D,S.w0.heap.size≤D∧S.M0 D=none→S.N.fr D:=by exact fun _ h=>h):WC S (.rangeFunc (.tmp g) ps assign body) κ H E:=by
 rintro a w ⟨M,hst,hsat⟩
 refine wpIn_rangeFunc fun fn _=>?_
 have hround:S.F.round=none:=hrd
 rw [hround]
 obtain⟨gv,hgv,vs,hgf,hvs⟩:=hsat.get g _ hg
 obtain⟨D,hDe⟩:∃D,D=w.heap.size:=⟨_,rfl⟩
 obtain⟨l,hle⟩:∃l,l=w.heap.size+1:=⟨_,rfl⟩
 obtain⟨x,hx1,hx2,hx3,hx4,hx5⟩:∃x:LX,x.ps=ps∧x.asg=assign∧x.bd=body∧x.tmps=a.tmps∧x.at .ready none={state:=.ready,pending:=none,fn,tmps:=a.tmps,params:=ps,assign,body,defers:=w.heap.size}:=⟨⟨fn,a.tmps,ps,assign,body,w.heap.size⟩,rfl,rfl,rfl,rfl,rfl⟩
 obtain⟨w1,hw1⟩:∃w1,w1=(w.alloc (.deferred (some []))).alloc (.loop (x.at .ready none)):=⟨_,rfl⟩
 have hMD:M D=none:=hst.mem.none (by omega)
 have hMl:M l=none:=hst.mem.none (by omega)
 have hsz:w1.heap.size=w.heap.size+2:=by rw [hw1];simp
 have hold:∀k,k<w.heap.size→w1.heap[k]?=w.heap[k]?:=fun k hk=>by
  rw [hw1]
  exact(aKE _ _ k (by simp;omega)).trans (aKE _ _ k hk)
 have hgr:w.grownBy w1 none:=⟨by rw [hw1];rfl,by rw [hw1];rfl,by rw [hw1];rfl,by omega,fun k hk _=>hold k hk⟩
 have hL1:w1.heap[l]?=some (rcS x jump 0):=by
  rw [hw1,hle]
  have:=World.alloc_heap_new (w.alloc (.deferred (some []))) (.loop (x.at .ready none))
  rwa [World.size_alloc] at this
 have hD1:w1.heap[D]?=some (.deferred (some [])):=by
  rw [hw1,hDe]
  exact(aKE _ _ _ (by simp)).trans (World.alloc_heap_new w _)
 have hown:∀e∈H,e.ok M w1:=fun e he=>(hst.own e he).kept hgr (fun b _=>by simp)
 have hst1:St S M w1 H:=⟨hst.le0,fun b o hb=>by rw [hold b (hst.mem.lt hb)];exact hst.mem b o hb,fun b hb hnb=>by rw [hold b (Nat.lt_of_lt_of_le hb hst.size)];exact hst.keep b hb hnb,hst.new,Nat.le_trans hst.size hgr.size,hgr.os.trans hst.os,hgr.tape.trans hst.tape,hgr.output.trans hst.output,hown,hst.fresh,hst.nodup⟩
 have hin:=hst1.pick h1 (List.nodup_append.1 hn).1
 have hHl:∀e∈H,∀b,e.β=some b→b<w.heap.size:=fun e he b hb=>(hst.own e he).lt hb
 have hmem:∀{L:List Nat} {X:List HA},cE H L=some X→∀e∈X,e∈H:=fun hp e he=>by
  obtain⟨j,hj⟩:=List.getElem?_of_mem he
  obtain⟨i,_,hi⟩:=mI hp j e hj
  exact List.mem_of_getElem? hi
 have hit':=hit x l M hx1 hx2 hx3 ⟨by rw [hx4];exact hsat.size,by rw [hx4];exact hsat.get⟩
 have hAl:lG M (.vc (pY l)::cs.map .vc) (#[Value.func (.yield l) #[] #[]]++vs.toArray).toList:=by
  have e:(#[Value.func (.yield l) #[] #[]]++vs.toArray).toList=.func (.yield l) #[] #[]::vs:=by simp
  rw [e]
  exact⟨rfl,lG.of_all2 hvs⟩
 have hcall:=hit'.run M w1 (#[.func (.yield l) #[] #[]]++vs.toArray) (oX.refl M).c hst1.mem hin.own hin.nodup hAl hL1 hMl (fun e he hb=>by have:=hHl e (hmem h1 e he) l hb;omega)
 have hev:a.eval (.tmp g)=.func (.func gf) #[] vs.toArray:=by
  subst hgf
  simp [Act.eval,hgv]
 have henter:(Instr.enterLoop fn a.tmps ps assign body none).run S.P w=.ok (l,[{target:=.collected D,args:=#[]}]) w1:=by
  rw [hw1,hle,hDe,hx5]
  exact run_enterLoop_outer fn a.tmps ps assign body
 refine⟨l,[{target:=.collected D,args:=#[]}],w1,{target:=.fn (.func gf) vs.toArray,args:=#[.func (.yield l) #[] #[]]},w1,gf,#[.func (.yield l) #[] #[]]++vs.toArray,w1,henter,?_,fun _ _=>trivial,?_,fun h=>by simp [Fence.wide] at h,?_⟩
 ·simp only [resolve,hev]
  simp [go_sem]
 ·simp [invoke,go_sem,oY hit'.ok]
 ·refine aN2 (hcall.mono fun e w2 hr=>?_)
  obtain⟨v,j,rfl,M',Ho,hp,hl2,hst2,hno,hHo⟩:=hr
  have bI:=aPj (is:=is) (js:=js) (S:=S) (E:=E) hDe hle hsz hst hst1 hsat h1 h2 hn hMD hHl (hst2.reN S.P 0) hno hHo hD1 hrc hfr
  cases j with
  |zero=>exact⟨none,_,run_endLoop hl2 (by simp [LX.at]),knext Ho hp _ _ (bI _)⟩
  |succ j=>exact⟨some (jump j),_,run_endLoop hl2 (by simp [LX.at]),kstop j Ho hp _ _ (bI _)⟩
theorem aOh {g gf:Nat} {ps:Array Tmp} {assign body:Code} {cs:List CP} (jump:Nat→Code) {post:Nat→List HA→Prop} (hg:jG E g=some (.vc (pF gf cs)))
  (hit:∀(x:LX) (l:Nat) (Mb:jI),x.ps=ps→x.asg=assign→x.bd=body→TE S.N.n E Mb x.tmps→CtI S.P gf l x jump Mb H (.vc (pY l)::cs.map .vc) post)
  (knext:∀Ho,post 0 Ho→WX S .normal κ Ho E) (kstop:∀j Ho,post (j+1) Ho→WC S (jump j) κ Ho E)
  (hrd:S.N.rd=none:=by rfl) (hrc:S.N.rc=none:=by rfl) (hfr:∀D,S.w0.heap.size≤D∧S.M0 D=none→S.N.fr D:=by exact fun _ h=>h):WC S (.rangeFunc (.tmp g) ps assign body) κ H E:=
 aSQ (List.range' 0 H.length) [] hg (aAI H) rfl hit (fun Ho h=>by rw [List.append_nil];exact knext Ho h) (fun j Ho h=>by rw [List.append_nil];exact kstop j Ho h) (by simpa using List.nodup_range' (s:=0) (n:=H.length)) hrd hrc hfr
theorem aRF {c:Code} {X R:List HA} (m:Nat) (is:List Nat) (hd:H.drop m=R) (hp:cE (H.take m) is=some X) (k:WC S c κ (X++R) E) (hn:is.Nodup:=by decide):WC S c κ H E:=fun a w ⟨M,h1,h2⟩=>k a w ⟨M,by
 rw [←List.take_append_drop m H,hd] at h1
 exact h1.split hp hn,h2⟩
theorem aOY {c:Code} {X:List HA} (is:List Nat) (hp:cE H is=some X) (k:WC S c κ X E) (hn:is.Nodup:=by decide):WC S c κ H E:=fun a w ⟨M,h1,h2⟩=>k a w ⟨M,h1.pick hp hn,h2⟩
end
section
variable {S:Sx} {κ:Kt} {H H':List HA} {E:sN} {ops:Array Oper} {rest:List Oper} {o:Oper}
theorem aRm {l d:Nat} {x:LX} {jump:Nat→Code} {Mb:jI} {pre:List VP} {post:Nat→List HA→Prop} {xs:List Operand} {y:Operand} {ts:Array TypeId} (ho:o.op=.call {callee:=.value y,args:=xs.toArray,argTypes:=ts}) (c:CtY S.P l x jump Mb H pre post) (h0:S.M0 l=none) (hMb:mlc Mb S.M0) (hi:yD E ((y,.vc (pY l))::xs.zip pre))
  (k0:∀Ho,post 0 Ho→WL S ops κ rest Ho ((d,.vc (pB true))::E)) (k1:∀j Ho,post (j+1) Ho→WL (S.rc l (rcS x jump (j+1))) ops κ rest Ho ((d,.vc (pB false))::E))
  (hrc:S.N.rc=some (l,rcS x jump 0):=by rfl) (hlB:l∈S.B:=by exact List.mem_cons_self) (hl:xs.length=pre.length:=by rfl) (hd:o.dst=some d:=by rfl) (hg:o.guard=none:=by rfl) (hN:Nat.blt d S.N=true:=by rfl):WL S ops κ (o::rest) H E:=
 aR6 (List.range' 0 H.length) [] ho c h0 hMb hi (aAI H) rfl (fun Ho h=>by rw [List.append_nil];exact k0 Ho h) (fun j Ho h=>by rw [List.append_nil];exact k1 j Ho h) (by simpa using List.nodup_range' (s:=0) (n:=H.length)) hrc hlB hl hd hg hN
theorem aPv {l d jg dj:Nat} {bg:Bool} {og:Oper} {x:LX} {jump:Nat→Code} {Mb:jI} {pre:List VP} {post:Nat→List HA→Prop} {xs:List Operand} {y:Operand} {ts:Array TypeId} (ho:o.op=.call {callee:=.value y,args:=xs.toArray,argTypes:=ts}) (c:CtY S.P l x jump Mb H pre post) (h0:S.M0 l=none) (hMb:mlc Mb S.M0) (hi:yD E ((y,.vc (pY l))::xs.zip pre))
  (k0:∀Ho,post 0 Ho→WL S ops κ rest Ho ((d,.vc (pB true))::E)) (k1:∀j Ho,post (j+1) Ho→WL (S.rc l (rcS x jump (j+1))) ops κ rest Ho ((d,.vc (pB false))::E))
  (hrc:S.N.rc=some (l,rcS x jump 0):=by rfl) (hlB:l∈S.B:=by exact List.mem_cons_self) (hl:xs.length=pre.length:=by rfl) (hd:o.dst=some d:=by rfl) (hg:o.guard=some (jg,bg):=by rfl) (hj:ops[jg]?=some og:=by rfl) (hdj:og.dst=some dj:=by rfl) (hlk:jG E dj=some (.vc (pB bg)):=by rfl) (hN:Nat.blt d S.N=true:=by rfl):WL S ops κ (o::rest) H E:=
 aQ2 (List.range' 0 H.length) [] ho c h0 hMb hi (aAI H) rfl (fun Ho h=>by rw [List.append_nil];exact k0 Ho h) (fun j Ho h=>by rw [List.append_nil];exact k1 j Ho h) (by simpa using List.nodup_range' (s:=0) (n:=H.length)) hrc hlB hl hd hg hj hdj hlk hN
theorem aSx {α:Type} {C:Cd α} {T:Nat} {X X' A:List HA} {gs:List rK} {rs:List (List α)} {r:List α} {g:rK} {Post:Option Nat→Nat→List HA} {ins:List (Operand×VP)} {out:Option Nat→Nat→VP} (i:Nat) (hi:X[i]?=some (hO C g.1 g.2.2 T g.2.1 r)) (hX:aBu X i=some X') (hl:cJ gs rs)
  (t:Hv S o ((X'++eD C T (gs++[g]) (rs++[r]))++A) Post ins out):Hv S o ((X++eD C T gs rs)++A) Post ins out:=
 ⟨fun M w a h hin K Q hk=>t.run M w a (h.perm (by
  rw [aGC g r hl.1,aAW hX,←List.append_assoc]
  have hlt:=(List.getElem?_eq_some_iff.1 hi).1
  have e:=(List.getElem?_eq_some_iff.1 hi).2
  have p1:(X.eraseIdx i++[hO C g.1 g.2.2 T g.2.1 r]).Perm X:=by
   refine List.perm_append_comm.trans ?_
   rw [←e]
   exact aDR _ _ hlt
  refine List.Perm.append_right A (List.Perm.trans ?_ (p1.append_right (eD C T gs rs)))
  rw [List.append_assoc,List.append_assoc]
  exact List.perm_append_comm.append_left _)) hin K Q hk⟩
theorem Sat.fz {N:NX} {M M0:jI} {a:Act} {E:sN} {α:Type} {C:Cd α} {xs:List α} {β:Option Nat} {n c:Nat} (h:Sat N M a E) (hS:∀v,(pO β n c).h M0 v→(pS C xs).h M v):∀{ds:List Nat},aF2 E (.vc (pO β n c)) ds→Sat N M a (ds.map (fun d=>(d,VP.vc (pS C xs)))++E)
 |[],_=>h
 |d::ds,hd=>by
  have ih:=h.fz hS hd.2
  refine⟨ih.size,ih.defers,fun x p hl=>?_⟩
  simp only [List.map_cons,List.cons_append,jG] at hl
  by_cases e:d=x
  ·subst e
   simp only [Nat.beq_refl,cond_true,Option.some.injEq] at hl
   subst hl
   obtain⟨v,hv,hp⟩:=h.get d _ hd.1
   exact⟨v,hv,hS v hp⟩
  ·rw [aA2 e] at hl
   exact ih.get x p hl
theorem aJo {α:Type} {C:Cd α} {xs:List α} {β:Option Nat} {c T n:Nat} (i k off:Nat) (ds:List Nat) {eb:HA} {ps':List CP} {H1 H2:List HA} (hi:H[i]?=some (hO C β c T n xs)) (hn:xs.length=n) (hL:xs.length≤aBq)
  (hk:H[k]?=some eb) (hne:Nat.beq i k=false) (hp:eb.ps[off]?=some (pO β n c)) (hps:yX eb.ps off [pS C xs]=some ps') (h1:aAi H k {eb with ps:=ps'}=some H1) (h2:aBu H1 i=some H2) (hds:aF2 E (.vc (pO β n c)) ds) {a:Act} {w:World} (h:hs S H E a w):hs S H2 (ds.map (fun d=>(d,VP.vc (pS C xs)))++E) a w:=by
 obtain⟨M,hst,hsat⟩:=h
 subst hn
 have hik:i≠k:=fun e=>by subst e;simp at hne
 obtain⟨hle,hst2⟩:=hst.freeze hi (fun _ _=>.inr trivial)
 have hebm:=List.mem_of_getElem? hk
 have hbok:=hst.own _ hebm
 obtain⟨⟨us,hou,hau⟩,hnu⟩:=hbok
 obtain⟨v,hv,hpv⟩:=hau.at off hp
 obtain⟨⟨vs,how,hall⟩,_⟩:=hst.own _ (List.mem_of_getElem? hi)
 have hSa:∀v,(pO β xs.length c).h M v→(pS C xs).h (frz M w β) v:=by
  intro v hpv
  rcases hpv with hv'|⟨_,h0,_,a0,rfl⟩
  rotate_left
  ·have hx:xs=[]:=List.eq_nil_of_length_eq_zero h0
   subst hx
   exact⟨_,_,rfl,by simp,by simp,fun j x hj=>by simp at hj⟩
  subst hv'
  rcases how.2 with⟨h3,h4⟩|⟨g,cap,cur,h3,_,hg,hnc,_,hsz,htake⟩
  ·have hx:xs=[]:=List.eq_nil_of_length_eq_zero h4
   subst hx
   exact⟨_,_,rfl,by simp,by simp,fun j x hj=>by simp at hj⟩
  ·cases β with
   |none=>simp [sv] at h3
   |some b=>
    simp only [sv,Option.map_some,Value.slice.injEq,Option.some.injEq,Addr.mk.injEq,and_true,true_and] at h3
    obtain⟨rfl,rfl⟩:=h3
    refine⟨_,_,rfl,hL,hnc,fun j x hj=>⟨b,0,rfl,?_⟩⟩
    refine⟨(vs.drop (j*C.n)).take C.n,?_,fun t u ht=>?_⟩
    ·have:=((bB.mono hle hall).drop (j*C.n)).take C.n
     rwa [aC3 C xs j x hj] at this
    ·have hM:frz M w (some b) b=some (.cells cur T (0,0)):=by simp [frz,hg]
     rw [List.getElem?_take] at ht
     split at ht
     ·rename_i htn
      rw [List.getElem?_drop] at ht
      simp only [y0,hM,Nat.zero_add]
      rw [←htake,List.getElem?_take] at ht
      split at ht
      ·simpa using ht
      ·cases ht
     ·cases ht
 have hS:=hSa v hpv
 have hvs:us.set off v=us:=by
  apply List.ext_getElem?
  intro j
  rw [List.getElem?_set]
  split
  ·rename_i e;subst e
   split
   ·exact hv.symm
   ·rename_i hlt;simp [List.getElem?_eq_none (Nat.not_lt.1 hlt)]
  ·rfl
 have hau2:bB (frz M w β) ps' us:=by
  have:=aF9 (us:=[v]) hps (bB.mono hle hau) ⟨hS,trivial⟩
  have hoff:off<us.length:=(List.getElem?_eq_some_iff.1 hv).1
  have e:us.take off++[v]++us.drop (off+[v].length)=us.set off v:=by
   rw [List.set_eq_take_append_cons_drop,if_pos hoff];simp
  rw [e,hvs] at this
  exact this
 refine⟨_,?_,Sat.fz (hsat.mono hle) hSa hds⟩
 rw [aAW h2,aC4 h1]
 have hget:∀(j:Nat),((H.set k {eb with ps:=ps'}).eraseIdx i)[j]?=if j<i then(H.set k {eb with ps:=ps'})[j]? else(H.set k {eb with ps:=ps'})[j+1]?:=fun j=>by rw [List.getElem?_eraseIdx]
 have hmap:∀(j:Nat) x,((H.set k {eb with ps:=ps'}).eraseIdx i)[j]?=some x→∃y,(H.eraseIdx i)[j]?=some y∧x.β=y.β∧(x.ok (frz M w β) w):=by
  intro j x hx
  have hx':∃j',j'≠i∧(H.set k {eb with ps:=ps'})[j']?=some x∧(H.eraseIdx i)[j]?=H[j']?:=by
   rw [hget] at hx
   by_cases hj:j<i
   ·rw [if_pos hj] at hx
    exact⟨j,by omega,hx,by rw [List.getElem?_eraseIdx,if_pos hj]⟩
   ·rw [if_neg hj] at hx
    exact⟨j+1,by omega,hx,by rw [List.getElem?_eraseIdx,if_neg hj]⟩
  obtain⟨j',hne',hx2,he⟩:=hx'
  rw [List.getElem?_set] at hx2
  by_cases hkj:k=j'
  ·subst hkj
   rw [if_pos rfl] at hx2
   split at hx2
   ·simp only [Option.some.injEq] at hx2
    subst hx2
    refine⟨eb,by rw [he,hk],rfl,⟨us,hou,hau2⟩,fun b hb=>?_⟩
    exact(hst2.own eb (List.mem_of_getElem? (by rw [he,hk]))).2 b hb
   ·cases hx2
  ·rw [if_neg hkj] at hx2
   exact⟨x,by rw [he,hx2],rfl,hst2.own x (List.mem_of_getElem? (by rw [he,hx2]))⟩
 refine⟨hst2.le0,hst2.mem,hst2.keep,hst2.new,hst2.size,hst2.os,hst2.tape,hst2.output,fun x hx=>?_,fun x hx b hb=>?_,zV fun {j l x y b} hj hl hx hy=>?_⟩
 ·obtain⟨j,hj⟩:=List.getElem?_of_mem hx
  obtain⟨y,_,_,hok⟩:=hmap j x hj
  exact hok
 ·obtain⟨j,hj⟩:=List.getElem?_of_mem hx
  obtain⟨y,hy,hb',_⟩:=hmap j x hj
  exact hst2.fresh y (List.mem_of_getElem? hy) b (hb'▸hb)
 ·obtain⟨x',hx',e1,_⟩:=hmap j x hj
  obtain⟨y',hy',e2,_⟩:=hmap l y hl
  exact aAm hst2.nodup hx' hy' (e1▸hx) (e2▸hy)
theorem aRi {α:Type} {C:Cd α} {xs:List α} {β:Option Nat} {c T n:Nat} (i k off:Nat) (ds:List Nat) {eb:HA} {ps':List CP} {H1 H2:List HA} (hi:H[i]?=some (hO C β c T n xs)) (hn:xs.length=n) (hk:H[k]?=some eb) (hp:eb.ps[off]?=some (pO β n c)) (hps:yX eb.ps off [pS C xs]=some ps') (h1:aAi H k {eb with ps:=ps'}=some H1) (h2:aBu H1 i=some H2) (hds:aF2 E (.vc (pO β n c)) ds) (kk:WL S ops κ rest H2 (ds.map (fun d=>(d,VP.vc (pS C xs)))++E)) (hne:Nat.beq i k=false:=by rfl):WL S ops κ rest H E:=
 fun a w hh=>kk a w (aJo i k off ds hi hn (hn▸aDG hi hh) hk hne hp hps h1 h2 hds hh)
theorem aRB {α:Type} {C:Cd α} {xs:List α} {β:Option Nat} {c T n:Nat} {e:Exit} (i k off:Nat) (ds:List Nat) {eb:HA} {ps':List CP} {H1 H2:List HA} (hi:H[i]?=some (hO C β c T n xs)) (hn:xs.length=n) (hk:H[k]?=some eb) (hp:eb.ps[off]?=some (pO β n c)) (hps:yX eb.ps off [pS C xs]=some ps') (h1:aAi H k {eb with ps:=ps'}=some H1) (h2:aBu H1 i=some H2) (hds:aF2 E (.vc (pO β n c)) ds) (kk:WX S e κ H2 (ds.map (fun d=>(d,VP.vc (pS C xs)))++E)) (hne:Nat.beq i k=false:=by rfl):WX S e κ H E:=
 fun a w hh=>kk a w (aJo i k off ds hi hn (hn▸aDG hi hh) hk hne hp hps h1 h2 hds hh)
theorem aPR {α:Type} {C:Cd α} {xs:List α} {β:Option Nat} {c T n:Nat} {cd:Code} (i k off:Nat) {eb:HA} {ps':List CP} {H1 H2:List HA} (hi:H[i]?=some (hO C β c T n xs)) (hn:xs.length=n) (hk:H[k]?=some eb) (hp:eb.ps[off]?=some (pO β n c)) (hps:yX eb.ps off [pS C xs]=some ps') (h1:aAi H k ⟨eb.β,eb.c,eb.T,eb.sz,eb.n,ps'⟩=some H1) (h2:aBu H1 i=some H2) (kk:WC S cd κ H2 E) (hne:Nat.beq i k=false:=by rfl):WC S cd κ H E:=
 fun a w hh=>kk a w (aNf i k off hi hn (hn▸aDG hi hh) hk hne hp hps h1 h2 hh)
def aOP (u v:Int):Option Int:=if v<0 then none else aS (u*2^(min v.toNat 64))
def aNQ (u v:Int):Option Int:=if v<0 then none else some (u.fdiv (2^(min v.toNat 64)))
def ian (u v:Int):Int:=IntKind.i64.wrap (((u%18446744073709551616).toNat&&& (v%18446744073709551616).toNat:Nat):Int)
theorem aSM {T T':Nat} {x y:Operand} {u v r:Int} (ho:o.op=.binOp .shl T x y T') (h:aOP u v=some r):Tr S o H H [(x,.vc (pI .i64 u)),(y,.vc (pI .i64 v))] (.vc (pI .i64 r)):=by
 refine⟨fun M w a hs hi K Q hk=>bX (v:=.int .i64 r) (t8 ho hi.1 hi.2.1 ?_) (hk _ M w (oX.refl M) hs rfl)⟩
 unfold aOP at h
 split at h
 ·cases h
 ·rename_i hv
  obtain⟨rfl,h0,h1⟩:=zO h
  simp [binOp,Op.shift,hv,IntKind.bits,aBh h0 h1]
theorem aRZ {T T':Nat} {x y:Operand} {u v r:Int} (ho:o.op=.binOp .shr T x y T') (h:aNQ u v=some r):Tr S o H H [(x,.vc (pI .i64 u)),(y,.vc (pI .i64 v))] (.vc (pI .i64 r)):=by
 refine⟨fun M w a hs hi K Q hk=>bX (v:=.int .i64 r) (t8 ho hi.1 hi.2.1 ?_) (hk _ M w (oX.refl M) hs rfl)⟩
 unfold aNQ at h
 split at h
 ·cases h
 ·rename_i hv
  simp only [Option.some.injEq] at h
  subst h
  simp [binOp,Op.shift,hv,IntKind.bits]
theorem aRT {T T':Nat} {x y:Operand} {u v:Int} (ho:o.op=.binOp .and T x y T'):Tr S o H H [(x,.vc (pI .i64 u)),(y,.vc (pI .i64 v))] (.vc (pI .i64 (ian u v))):=
 ⟨fun M w a hs hi K Q hk=>bX (v:=.int .i64 (ian u v)) (t8 ho hi.1 hi.2.1 (by first|rfl|(simp [binOp,Op.intBits,ian,IntKind.bits];rw [BitVec.toNat_and,BitVec.toNat_ofInt,BitVec.toNat_ofInt];rfl))) (hk _ M w (oX.refl M) hs rfl)⟩
theorem aGM {α:Type} {C:Cd α} {xs:List α} {β:Option Nat} {c T n:Nat} (i:Nat) (hi:H[i]?=some (hO C β c T n xs)) (hn:xs.length=n):∀M w,St S M w H→∃Mb,oX M Mb∧Mok Mb w∧∀v,(pO β n c).h M v→(pS C xs).h Mb v:=fun M w h=>by
 obtain⟨M',g1,g2,g3⟩:=h.frzv (i:=i) hi hn
 exact⟨M',g1,g2.mem,fun v hv=>aKo hn hv g3⟩
def pK (P0:CP) (h k0:Nat):CP:=⟨fun M v=>∃p n c,P0.h M (.slice p n c)∧h≤n∧n≤c∧v=.slice (if c=0 then p else p.map (·.add (0*k0))) (h-0) (c-0),
 fun hm ⟨p,n,c,h1,h2⟩=>⟨p,n,c,P0.monoc hm h1,h2⟩,fun h=>by obtain⟨p,n,c,_,_,_,rfl⟩:=h;rfl⟩
theorem aRx {t e k0 bytes n c i:Nat} {β:Option Nat} {x y:Operand} {hi:Int} {k:IntKind} {ea:HA} (ho:o.op=.slice t x none (some y) none) (ht:TyS S.P t e k0 bytes) (hH:H[i]?=some ea) (hβ:ea.β=β) (hc:ea.c=c) (hn:ea.n=n) (h0:0≤hi) (hl:hi≤(n:Int)):
  Tr S o H H [(x,.vc (pO β n c)),(y,.vc (pI k hi))] (.vc (pK (pO β n c) hi.toNat k0)):=by
 refine⟨fun M w a hs hin K Q hk=>?_⟩
 have hy:a.eval y=.int k hi:=hin.2.1
 obtain⟨it,hit,hk',_⟩:=ht.s
 obtain⟨⟨vs,how,_⟩,_⟩:=hs.own ea (List.mem_of_getElem? hH)
 rw [hβ,hc,hn] at how
 have hform:∃p cc,a.eval x=.slice p n cc∧n≤cc∧(pO β n c).h M (.slice p n cc):=by
  rcases hin.1 with hx|⟨h1,h2,h3,a0,hx⟩
  ·rcases how.2 with⟨h3,h4⟩|⟨g,cap,cur,h3,_,_,hnc,_⟩
   ·refine⟨none,0,by rw [hx,h3,h4],by omega,.inl (by rw [h3,h4])⟩
   ·exact⟨some ⟨g,0,none⟩,cap,by rw [hx,h3],hnc,.inl h3.symm⟩
  ·exact⟨some a0,0,by rw [hx,h2],by omega,.inr ⟨h1,h2,h3,a0,by rw [h2]⟩⟩
 obtain⟨p,cc,hx,hnc,hp⟩:=hform
 refine bX (v:=.slice (if cc=0 then p else p.map (·.add (0*k0))) (hi.toNat-0) (cc-0)) ?_ (hk _ M w (oX.refl M) hs ⟨p,n,cc,hp,by omega,hnc,rfl⟩)
 have hb:=aCo (P:=S.P) (w:=w) (k:=k) (i:=hi) (y:=cc) (code:=.sliceAcap) h0 (by omega)
 simp [execOp,ho,hx,hy,Instr.sliceAt,Instr.slice,Instr.sliceBounds,run_underlying ht.u,sizeOf,typeInfo,hit,hb]
theorem aMh {α:Type} {C:Cd α} {xs zs:List α} {β:Option Nat} {c T n:Nat} {hi:Int} (i:Nat) (hH:H[i]?=some (hO C β c T n xs)) (hn:xs.length=n) (h:slL xs 0 hi=some zs):∀M w,St S M w H→∃Mb,oX M Mb∧Mok Mb w∧∀v,(pK (pO β n c) hi.toNat C.n).h M v→(pS C zs).h Mb v:=fun M w hs=>by
 obtain⟨Mb,g1,g2,g3⟩:=aGM i hH hn M w hs
 refine⟨Mb,g1,g2,fun v hv=>?_⟩
 obtain⟨rfl,_,h0,hl⟩:=aAx h
 obtain⟨p,n',c',h1,h2,h3,rfl⟩:=hv
 have hS:=g3 _ h1
 obtain⟨_,c2,e,q1,q2,q3⟩:=hS
 simp only [Value.slice.injEq] at e
 obtain⟨rfl,rfl,rfl⟩:=e
 exact aEU (l:=0) (h:=hi.toNat) (m:=c') ⟨p,c',rfl,q1,q2,q3⟩ (by omega) (by omega) (by omega) (Nat.le_refl _)
theorem aPh {α:Type} {xs zs:List α} {hi:Int} {n:Nat} (h:slL xs 0 hi=some zs) (hn:xs.length=n):hi≤(n:Int):=hn▸(aAx h).2.2.2
def aJS (P Q:CP):List VP→List VP→Prop
 |[],[]=>True
 |p::ps,q::qs=>(p=q∨(p=.vc P∧q=.vc Q))∧aJS P Q ps qs
 |_,_=>False
theorem aJS.conv {P Q:CP} {M Mb:jI} (h1:oX M Mb) (h2:∀v,P.h M v→Q.h Mb v):∀{ps qs:List VP} {vs:List Value},aJS P Q ps qs→lG M ps vs→lG Mb qs vs
 |[],[],[],_,_=>trivial
 |[],[],_::_,_,h=>h.elim
 |p::ps,q::qs,[],_,h=>h.elim
 |p::ps,q::qs,v::vs,hl,h=>by
  refine⟨?_,aJS.conv h1 h2 hl.2 h.2⟩
  rcases hl.1 with rfl|⟨rfl,rfl⟩
  ·exact VP.mono h1 h.1
  ·exact h2 v h.1
 |[],_::_,_,h,_=>h.elim
 |_::_,[],_,h,_=>h.elim
theorem aNh {P Q:CP} {pre' pre:List VP} (hlend:∀M w,St S M w H→∃Mb,oX M Mb∧Mok Mb w∧∀v,P.h M v→Q.h Mb v) (h:aJS P Q pre' pre):∀M w,St S M w H→∃Mb,oX M Mb∧Mok Mb w∧∀vs,lG M pre' vs→lG Mb pre vs:=fun M w hs=>by
 obtain⟨Mb,h1,h2,h3⟩:=hlend M w hs
 exact⟨Mb,h1,h2,fun vs hv=>h.conv h1 h3 hv⟩
section
variable {A:List HA}
theorem aHe {f:Nat} {L A A1 B R:List HA} {pre:List VP} {q:VP} {cs:List CP} {xs:List Operand} {y:Operand} {ts:Array TypeId} (m:Nat) (is js ks:List Nat) (ho:o.op=.call {callee:=.value y,args:=xs.toArray,argTypes:=ts}) (c:CtO S.P f (A1++R) (pre++cs.map .vc) (fun Ho p=>Ho=A1++R∧p=q)) (hR:L.drop m=R) (h1:cE (L.take m) is=some A1) (h2:cE (L.take m) js=some B) (h3:cE (A1++B) ks=some (L.take m)) (hn:(is++js).Nodup) (hk:ks.Nodup) (hl:xs.length=pre.length):
  Tr S o (L++A) (L++A) ((y,.vc (pF f cs))::xs.zip pre) q:=by
 refine⟨fun M w a h hin K Q hkk=>?_⟩
 have hall:=lG.of_ins hl hin.2
 obtain⟨vs,hy,hvs⟩:=hin.1
 have e0:L++A=L.take m++(R++A):=by rw [←hR,←List.append_assoc,List.take_append_drop]
 rw [e0] at h hkk
 have g1:St S M w ((A1++B)++(R++A)):=h.split (zE h1 h2) hn
 have pp:List.Perm ((A1++R)++(B++A)) ((A1++B)++(R++A)):=by
  rw [List.append_assoc,List.append_assoc,←List.append_assoc R,←List.append_assoc B]
  exact((List.perm_append_comm).append_right A).append_left A1
 have g2:=g1.perm pp
 obtain⟨p1,p2,p3⟩:=aCt (A1++R) (B++A)
 have gin:St S M w (A1++R):=g2.pick p1 (List.nodup_append.1 p3).1
 refine yO (f:=f) (args:=(xs.map a.eval++vs).toArray) ?_ (c.run M w _ g2.mem gin.own gin.nodup (lG.app hall (lG.of_all2 hvs))) fun e w' hr=>?_
 ·simp [execOp,ho,resolve,Deferred.ofValue,hy,invoke,oY c.ok]
 ·obtain⟨v,M',Ho,q',⟨rfl,rfl⟩,rfl,hst',hq⟩:=hr
  have g3:St S M' w' ((A1++R)++(B++A)):=g2.call p1 p2 p3 hst'
  exact⟨v,rfl,hkk v M' w' hst'.le0 ((g3.perm pp.symm).split h3 hk) hq⟩
def pFB (f:Nat) (bs cs:List CP):CP:=⟨fun M v=>∃us vs:List Value,v=.func (.func f) us.toArray vs.toArray∧bB M bs us∧bB M cs vs,fun hm ⟨us,vs,e,h,k⟩=>⟨us,vs,e,bB.monoc hm h,bB.monoc hm k⟩,fun h=>by obtain⟨us,vs,rfl,_⟩:=h;rfl⟩
theorem aJI {M:jI} {a:Act}:∀{xs:List Operand} {cs:List CP},xs.length=cs.length→Ins M a (xs.zip (cs.map .vc))→bB M cs (xs.map a.eval)
 |[],[],_,_=>trivial
 |_::_,_::_,h,k=>⟨k.1,aJI (by simpa using h) k.2⟩
 |[],_::_,h,_=>by simp at h
 |_::_,[],h,_=>by simp at h
theorem aPK {f:Nat} {xs:List Operand} {bs:List CP} (ho:o.op=.makeFunc (.func f) xs.toArray #[]) (hl:xs.length=bs.length):Tr S o H H (xs.zip (bs.map .vc)) (.vc (pFB f bs [])):=
 ⟨fun M w a hs hi K Q hk=>bX (v:=.func (.func f) (xs.map a.eval).toArray #[]) (by simp [execOp,ho,Instr.makeFunc]) (hk _ M w (oX.refl M) hs ⟨_,[],rfl,aJI hl hi,trivial⟩)⟩
theorem aGF {f:Nat} {L A A1 B R:List HA} {pre:List VP} {q:VP} {bs cs:List CP} {xs:List Operand} {y:Operand} {ts:Array TypeId} (m:Nat) (is js ks:List Nat) (ho:o.op=.call {callee:=.value y,args:=xs.toArray,argTypes:=ts}) (c:CtO S.P f (A1++R) (bs.map .vc++(pre++cs.map .vc)) (fun Ho p=>Ho=A1++R∧p=q)) (hR:L.drop m=R) (h1:cE (L.take m) is=some A1) (h2:cE (L.take m) js=some B) (h3:cE (A1++B) ks=some (L.take m)) (hn:(is++js).Nodup) (hk:ks.Nodup) (hl:xs.length=pre.length):
  Tr S o (L++A) (L++A) ((y,.vc (pFB f bs cs))::xs.zip pre) q:=by
 refine⟨fun M w a h hin K Q hkk=>?_⟩
 have hall:=lG.of_ins hl hin.2
 obtain⟨us,vs,hy,hus,hvs⟩:=hin.1
 have e0:L++A=L.take m++(R++A):=by rw [←hR,←List.append_assoc,List.take_append_drop]
 rw [e0] at h hkk
 have g1:St S M w ((A1++B)++(R++A)):=h.split (zE h1 h2) hn
 have pp:List.Perm ((A1++R)++(B++A)) ((A1++B)++(R++A)):=by
  rw [List.append_assoc,List.append_assoc,←List.append_assoc R,←List.append_assoc B]
  exact((List.perm_append_comm).append_right A).append_left A1
 have g2:=g1.perm pp
 obtain⟨p1,p2,p3⟩:=aCt (A1++R) (B++A)
 have gin:St S M w (A1++R):=g2.pick p1 (List.nodup_append.1 p3).1
 refine yO (f:=f) (args:=(us++(xs.map a.eval++vs)).toArray) ?_ (c.run M w _ g2.mem gin.own gin.nodup (lG.app (lG.of_all2 hus) (lG.app hall (lG.of_all2 hvs)))) fun e w' hr=>?_
 ·simp [execOp,ho,resolve,Deferred.ofValue,hy,invoke,oY c.ok]
 ·obtain⟨v,M',Ho,q',⟨rfl,rfl⟩,rfl,hst',hq⟩:=hr
  have g3:St S M' w' ((A1++R)++(B++A)):=g2.call p1 p2 p3 hst'
  exact⟨v,rfl,hkk v M' w' hst'.le0 ((g3.perm pp.symm).split h3 hk) hq⟩
end
end
end Go.Proofs.YtolfcbpgmfbgmaaGreat
set_option linter.unusedVariables false
namespace Go.Proofs.YtolfcbpgmfbgmaaGreat
theorem CP.eq {p q:CP} (h:∀M v,p.h M v↔q.h M v):p=q:=by
 have e:p.h=q.h:=by funext M v;exact propext (h M v)
 cases p;cases q
 simp only at e
 subst e
 rfl
theorem aM1 {α β:Type} {C:Cd α} {C':Cd β} {f:α→β} (hn:C.n=C'.n) (he:∀x,C.e x=C'.e (f x)) (xs:List α):pS C xs=pS C' (xs.map f):=by
 refine CP.eq fun M v=>?_
 show(∃p c,v=.slice p xs.length c∧xs.length≤aBq∧xs.length≤c∧∀(j:Nat) x,xs[j]?=some x→∃b o,p=some ⟨b,o,none⟩∧z9 M b (o+j*C.n) (C.e x))↔(∃p c,v=.slice p (xs.map f).length c∧(xs.map f).length≤aBq∧(xs.map f).length≤c∧∀(j:Nat) x,(xs.map f)[j]?=some x→∃b o,p=some ⟨b,o,none⟩∧z9 M b (o+j*C'.n) (C'.e x))
 rw [List.length_map,hn]
 constructor
 ·rintro⟨p,c,h1,h2,h3,h4⟩
  refine⟨p,c,h1,h2,h3,fun j x hx=>?_⟩
  rw [List.getElem?_map] at hx
  cases hj:xs[j]? with
  |none=>rw [hj] at hx;cases hx
  |some y=>
   rw [hj] at hx
   cases hx
   rw [←he];exact h4 j y hj
 ·rintro⟨p,c,h1,h2,h3,h4⟩
  refine⟨p,c,h1,h2,h3,fun j x hx=>?_⟩
  rw [he]
  exact h4 j (f x) (by rw [List.getElem?_map,hx];rfl)
theorem aIi (xs:List Rat):pS cQ xs=pS aK.c (xs.map Qr):=aM1 (C:=cQ) (C':=aK.c) (f:=Qr) rfl (fun _=>rfl) xs
theorem aEn (xs:List (List Rat)):pS (bJ cQ) xs=pS (bJ aK.c) (xs.map (List.map Qr)):=aM1 (C:=bJ cQ) (C':=bJ aK.c) (f:=List.map Qr) rfl (fun x=>by show [pS cQ x]=[pS aK.c (x.map Qr)];rw [aIi]) xs
open Classical in
noncomputable def aE4 (X:List aK):Option (List Rat):=if h:∃l:List Rat,X=l.map Qr then some (Classical.choose h) else none
open Classical in
noncomputable def aEW (X:List (List aK)):Option (List (List Rat)):=if h:∃l:List (List Rat),X=l.map (List.map Qr) then some (Classical.choose h) else none
theorem aHp {X:List aK} {l:List Rat} (h:aE4 X=some l):X=l.map Qr:=by
 unfold aE4 at h
 split at h
 ·rename_i hx
  cases h
  exact Classical.choose_spec hx
 ·cases h
theorem aHy {X:List (List aK)} {l:List (List Rat)} (h:aEW X=some l):X=l.map (List.map Qr):=by
 unfold aEW at h
 split at h
 ·rename_i hx
  cases h
  exact Classical.choose_spec hx
 ·cases h
theorem aMq {X:List aK} (h:∀l:List Rat,X≠l.map Qr):aE4 X=none:=by
 unfold aE4
 rw [dif_neg (fun⟨l,hl⟩=>h l hl)]
theorem aMg {X:List (List aK)} (h:∀l:List (List Rat),X≠l.map (List.map Qr)):aEW X=none:=by
 unfold aEW
 rw [dif_neg (fun⟨l,hl⟩=>h l hl)]
theorem aI7 (l:List Rat):aE4 (l.map Qr)=some l:=by
 have hx:∃l':List Rat,l.map Qr=l'.map Qr:=⟨l,rfl⟩
 unfold aE4
 rw [dif_pos hx]
 have:=Classical.choose_spec hx
 congr 1
 exact(List.map_inj_right fun a b h=>aKq h).1 this.symm
theorem aI4 (l:List (List Rat)):aEW (l.map (List.map Qr))=some l:=by
 have hx:∃l':List (List Rat),l.map (List.map Qr)=l'.map (List.map Qr):=⟨l,rfl⟩
 unfold aEW
 rw [dif_pos hx]
 have:=Classical.choose_spec hx
 congr 1
 exact(List.map_inj_right (fun a b h=>(List.map_inj_right fun a b h=>aKq h).1 h)).1 this.symm
end Go.Proofs.YtolfcbpgmfbgmaaGreat
