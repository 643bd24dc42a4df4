/- Texts of the proof, part 6: WK WL. -/
import Derived.Test.YtolfcbpgmfbgmaaGreatZ5
set_option linter.unusedSimpArgs false
set_option linter.unusedVariables false
namespace Go.Proofs.YtolfcbpgmfbgmaaGreat
theorem dn_q {p q:Int} {m:Nat} (hp:p.natAbs≤m) (h1:1≤q) (h3:q≤3):dn 6 1 (6*m) ((p:Rat)/q):=by
 have key:∀k:Int,((q:Rat)⁻¹)*6=(k:Rat)→k.natAbs≤6→dn 6 1 (6*m) ((p:Rat)/q):=fun k hk hk6=>
  ⟨p*k,by
   have e:((6^1:Nat):Rat)=6:=rfl
   rw [Rat.div_def,Rat.intCast_mul,←hk,e,Rat.mul_assoc],by rw [Int.natAbs_mul,Nat.mul_comm];exact Nat.mul_le_mul hk6 hp⟩
 obtain rfl|rfl|rfl:q=1∨q=2∨q=3:=by omega
 ·exact key 6 (by decide+kernel) (by decide)
 ·exact key 3 (by decide+kernel) (by decide)
 ·exact key 2 (by decide+kernel) (by decide)
theorem aBs {p q:Int} {m:Nat} (hp:p.natAbs≤m) (h1:1≤q) (h3:q≤3) (hm:m≤100):∃r,yN p q=some r∧dn 6 1 (6*m) r:=by
 obtain⟨r,r1,r2,_⟩:=aMw (k:=8) (p:=p) (q:=q) (by omega) (by omega) (by omega) (by omega)
 exact⟨r,r1,by rw [r2];exact dn_q hp h1 h3⟩
theorem aBQ {x:Rat} (h:dn 6 2 4000 x):Bd 12 x:=by
 obtain⟨z,h1,h2⟩:=h
 have e:((6^2:Nat):Rat)=36:=rfl
 have h36:((36:Int):Rat)≠0:=by decide+kernel
 have e2:((36:Int):Rat)=36:=rfl
 have:x=(z:Rat)/((36:Int):Rat):=by
  rw [←h1,e,e2,Rat.div_def,Rat.mul_assoc,Rat.mul_inv_cancel _ (by rw [←e2];exact h36),Rat.mul_one]
 rw [this]
 exact Bd.of (by omega) (by omega) (by decide)
theorem aF6 {m:Nat} {x:Rat} (h:dn 6 1 m x) (hm:m*6≤4000):dn 6 2 4000 x:=h.up.mono hm
theorem aHD {x:Int} (hx:0≤x∧x<60):∃r,gT x=some r∧dn 6 1 24 r:=by
 obtain⟨v,v1,v2,v3⟩:=aBI (x:=x) (by omega) (m:=60) (by omega)
 unfold gT
 rw [v1,oB]
 by_cases h:v<24
 ·exact⟨0,by rw [dT h,cU],dn.zero⟩
 ·have m9:=aIp (a:=v) (m:=9) v2 (by omega)
  have m3:=aIp (a:=v/9) (m:=3) (by omega) (by omega)
  obtain⟨r,r1,r2⟩:=aBs (p:=v%9-4) (q:=1+v/9%3) (m:=4) (by omega) (by omega) (by omega) (by omega)
  exact⟨r,by rw [dF h,cP,qI v2 (by omega),oB,nA (by omega),oB,tV v2 (by omega) (by omega),oB,qI (by omega) (by omega),oB,nA (by omega),oB,r1,oB],r2⟩
def vn (l:List Int) (j:Nat):Rat:=((bW l (j:Int) 60).bind gT).getD 0
def zQ (l:List Int) (r c:Nat):Rat:=vn l (3+6*r+c)
def vw (l:List Int) (i:Nat):Rat:=((bW l ((40+i:Nat):Int) 13).bind fun a=>(bW l ((47+i:Nat):Int) 2).bind fun b=>yN (a-8) (1+b)).getD 0
theorem aIs {l:List Int} (hl:yR l) (r c:Nat):∃v,bW l ((3+6*r+c:Nat):Int) 60=some v∧gT v=some (zQ l r c)∧dn 6 1 24 (zQ l r c):=by
 obtain⟨v,v1,v2,v3⟩:=aCg hl ((3+6*r+c:Nat):Int) (m:=60) (by omega)
 obtain⟨x,x1,x2⟩:=aHD ⟨v2,v3⟩
 have e:zQ l r c=x:=by unfold zQ vn;rw [v1,oB,x1];rfl
 exact⟨v,v1,by rw [e];exact x1,by rw [e];exact x2⟩
theorem aLa {l:List Int} (hl:yR l) (i:Nat):∃a b,bW l ((40+i:Nat):Int) 13=some a∧aO (a-8)=some (a-8)∧bW l ((47+i:Nat):Int) 2=some b∧aO (1+b)=some (1+b)∧yN (a-8) (1+b)=some (vw l i)∧dn 6 1 48 (vw l i):=by
 obtain⟨a,a1,a2,a3⟩:=aCg hl ((40+i:Nat):Int) (m:=13) (by omega)
 obtain⟨b,b1,b2,b3⟩:=aCg hl ((47+i:Nat):Int) (m:=2) (by omega)
 obtain⟨r,r1,r2⟩:=aBs (p:=a-8) (q:=1+b) (m:=8) (by omega) (by omega) (by omega) (by omega)
 have e:vw l i=r:=by unfold vw;rw [a1,oB,b1,oB,r1];rfl
 exact⟨a,b,a1,nA (by omega),b1,nA (by omega),by rw [e];exact r1,by rw [e];exact r2⟩
theorem aEm {l:List Int} (hl:yR l) (r c:Nat):dn 6 1 24 (zQ l r c):=by
 obtain⟨_,_,_,h⟩:=aIs hl r c
 exact h
theorem aNs {l:List Int} (hl:yR l) (i:Nat):dn 6 1 48 (vw l i):=by
 obtain⟨_,_,_,_,_,_,_,h⟩:=aLa hl i
 exact h
theorem aJQ {l:List Int} (hl:yR l) (r c:Nat):Bd 12 (zQ l r c):=aBQ (aF6 (aEm hl r c) (by omega))
theorem aG0 {l:List Int} (hl:yR l) {n r:Nat} (hr:r≤10) (hn:n≤10) (K:Nat):∀(t i k:Nat),i+t=n→t<k→dY K l (n:Int) (r:Int) k (mp (zQ l r) i) (i:Int)=some (mp (zQ l r) n)
 |0,i,k,hi,hk=>by
  have:i=n:=by omega
  subst this
  obtain⟨k',rfl,_⟩:=bI hk
  simp only [dY,dF (show¬(i:Int)<(i:Int) by omega),cP]
 |t+1,i,k,hi,hk=>by
  obtain⟨k',rfl,hk'⟩:=bI hk
  have e1:aO (6*(r:Int))=some ((6*r:Nat):Int):=wB (m:=0) (by omega) (by omega)
  have e2:aO (3+((6*r:Nat):Int))=some ((3+6*r:Nat):Int):=wB (m:=0) (by omega) (by omega)
  have e3:aO (((3+6*r:Nat):Int)+(i:Int))=some ((3+6*r+i:Nat):Int):=wB (m:=0) (by omega) (by omega)
  obtain⟨v,v1,v2,_⟩:=aIs hl r i
  simp only [dY,dT (show(i:Int)<(n:Int) by omega),cU,e1,e2,e3,oB,v1,v2,apM (g:=zQ l r) (i:=i) (by omega),uR (i:=i) (by omega)]
  exact aG0 hl hr hn K t (i+1) k' (by omega) (by omega)
theorem aJN {l:List Int} (hl:yR l) {n:Nat} (hn:n≤10) {K:Nat} (hK:n<K):∀(t i k:Nat),i+t=n→t<k→dA K l (n:Int) k (mp (vw l) i) (mx (zQ l) i n) (i:Int)=some (mp (vw l) n,mx (zQ l) n n)
 |0,i,k,hi,hk=>by
  have:i=n:=by omega
  subst this
  obtain⟨k',rfl,_⟩:=bI hk
  simp only [dA,dF (show¬(i:Int)<(i:Int) by omega),cP]
 |t+1,i,k,hi,hk=>by
  obtain⟨k',rfl,hk'⟩:=bI hk
  have h1:=aG0 hl (n:=n) (r:=i) (by omega) hn K n 0 K (by omega) hK
  simp only [Int.natCast_zero,zK] at h1
  have e1:aO (40+(i:Int))=some ((40+i:Nat):Int):=wB (m:=0) (by omega) (by omega)
  have e2:aO (47+(i:Int))=some ((47+i:Nat):Int):=wB (m:=0) (by omega) (by omega)
  have e3:sK (mx (zQ l) i n) [mp (zQ l i) n]=some (mx (zQ l) (i+1) n):=apM (g:=fun r=>mp (zQ l r) n) (by omega)
  obtain⟨a,b,a1,a2,b1,b2,c1,_⟩:=aLa hl i
  simp only [dA,dT (show(i:Int)<(n:Int) by omega),cU,h1,oB,kD,e3,e1,a1,a2,e2,b1,b2,c1,apM (g:=vw l) (i:=i) (by omega),uR (i:=i) (by omega)]
  exact aJN hl hn hK t (i+1) k' (by omega) (by omega)
def gm (l:List Int) (n i k:Nat):Rat:=sm (fun c=>zQ l i c*zQ l k c) n
def gmd (d:Bool) (l:List Int) (n i k:Nat):Rat:=if d=true∧k=i then gm l n i i+1 else gm l n i k
theorem aLD {f:Nat→Rat} {D e M:Nat}:∀n,(∀c,c<n→dn D e M (f c))→dn D e (n*M) (sm f n)
 |0,_=>dn.zero
 |n+1,h=>by
  rw [Nat.succ_mul]
  exact(aLD n fun c hc=>h c (by omega)).add (h n (by omega))
theorem aGv {l:List Int} (hl:yR l) {n:Nat} (hn:n≤6) (i k:Nat):dn 6 2 3500 (gm l n i k):=
 (aLD (M:=576) n fun c _=>(aEm hl i c).mul (aEm hl k c)).mono (by omega)
theorem aDN:dn 6 2 36 (1:Rat):=⟨36,by decide+kernel,by decide⟩
theorem aJv {d:Bool} {l:List Int} (hl:yR l) {n:Nat} (hn:n≤6) (i k:Nat):dn 6 2 4000 (gmd d l n i k):=by
 unfold gmd
 split
 ·exact((aGv hl hn i i).add aDN).mono (by omega)
 ·exact(aGv hl hn i k).mono (by omega)
theorem aJY {l:List Int} (hl:yR l) {n:Nat} (hn:n≤6) {K:Nat} (hK:n<K) (i k:Nat):kP K (mp (zQ l i) n) (mp (zQ l k) n)=some (gm l n i k):=
 (aMj (fun c _=>aJQ hl i c) (fun c _=>aJQ hl k c) (by omega) (by omega) hK).2
theorem aHz {l:List Int} (hl:yR l) {n i:Nat} (hi:i<n) (hn:n≤6) {K:Nat} (hK:n<K):∀(t c k:Nat),c+t=n→t<k→dU K (n:Int) (mx (zQ l) n n) (i:Int) k (mp (gm l n i) c) (c:Int)=some (mp (gm l n i) n)
 |0,c,k,hc,hk=>by
  have:c=n:=by omega
  subst this
  obtain⟨k',rfl,_⟩:=bI hk
  simp only [dU,dF (show¬(c:Int)<(c:Int) by omega),cP]
 |t+1,c,k,hc,hk=>by
  obtain⟨k',rfl,hk'⟩:=bI hk
  simp only [dU,dT (show(c:Int)<(n:Int) by omega),cU,zB (g:=zQ l) (w:=n) hi,zB (g:=zQ l) (w:=n) (show c<n by omega),oB,aJY hl hn hK i c,apM (g:=gm l n i) (i:=c) (by omega),uR (i:=c) (by omega)]
  exact aHz hl hi hn hK t (c+1) k' (by omega) (by omega)
theorem aHy {l:List Int} (hl:yR l) {n i:Nat} (hi:i<n) (hn:n≤6) {K:Nat} (hK:n<K):∀(t c k:Nat),c+t=n→t<k→dX K (n:Int) (mx (zQ l) n n) (i:Int) k (mp (gm l n i) c) (c:Int)=some (mp (gm l n i) n)
 |0,c,k,hc,hk=>by
  have:c=n:=by omega
  subst this
  obtain⟨k',rfl,_⟩:=bI hk
  simp only [dX,dF (show¬(c:Int)<(c:Int) by omega),cP]
 |t+1,c,k,hc,hk=>by
  obtain⟨k',rfl,hk'⟩:=bI hk
  simp only [dX,dT (show(c:Int)<(n:Int) by omega),cU,zB (g:=zQ l) (w:=n) hi,zB (g:=zQ l) (w:=n) (show c<n by omega),oB,aJY hl hn hK i c,apM (g:=gm l n i) (i:=c) (by omega),uR (i:=c) (by omega)]
  exact aHy hl hi hn hK t (c+1) k' (by omega) (by omega)
theorem aNe:Bd 12 (1:Rat):=aBQ (aDN.mono (by omega))
theorem aHl {d:Bool} {l:List Int} {n i:Nat} (hi:i<n):(if d=true then mp (lU (gm l n i) i (gm l n i i+1)) n else mp (gm l n i) n)=mp (gmd d l n i) n:=by
 cases d with
 |true=>
  rw [if_pos rfl]
  refine hU fun j hj=>?_
  unfold gmd
  by_cases e:j=i
  ·subst e;rw [bD,if_pos ⟨rfl,rfl⟩]
  ·rw [cO e,if_neg (fun h=>e h.2)]
 |false=>
  rw [if_neg (by decide)]
  exact hU fun j hj=>by unfold gmd;rw [if_neg (fun h=>absurd h.1 (by decide))]
theorem aGF {l:List Int} (hl:yR l) {n:Nat} {v5:Int} (hn:n≤6) {K:Nat} (hK:n<K):∀(t i k:Nat),i+t=n→t<k→cA K (n:Int) v5 (mx (zQ l) n n) k (mx (gmd (v5==2) l n) i n) (i:Int)=some (mx (gmd (v5==2) l n) n n)
 |0,i,k,hi,hk=>by
  have:i=n:=by omega
  subst this
  obtain⟨k',rfl,_⟩:=bI hk
  simp only [cA,dF (show¬(i:Int)<(i:Int) by omega),cP]
 |t+1,i,k,hi,hk=>by
  obtain⟨k',rfl,hk'⟩:=bI hk
  have h1:=aHz hl (n:=n) (i:=i) (by omega) hn hK n 0 K (by omega) hK
  simp only [Int.natCast_zero,zK] at h1
  have e3:sK (mx (gmd (v5==2) l n) i n) [mp (gmd (v5==2) l n i) n]=some (mx (gmd (v5==2) l n) (i+1) n):=apM (g:=fun r=>mp (gmd (v5==2) l n r) n) (by omega)
  have e4:=aHl (d:=v5==2) (l:=l) (show i<n by omega)
  have b1:Bd 12 (gm l n i i):=aBQ ((aGv hl hn i i).mono (by omega))
  have ih:=aGF hl (v5:=v5) hn hK t (i+1) k' (by omega) (by omega)
  simp only [cA,dT (show(i:Int)<(n:Int) by omega),cU,h1,oB,kG]
  cases hd:(v5==2) with
  |true=>
   rw [hd] at e3 e4 ih
   rw [if_pos rfl] at e4
   simp only [cU,jO (f:=gm l n i) (show i<n by omega),oB,aJr,aD5 b1 aNe (by omega) (by omega),yJ (f:=gm l n i) (show i<n by omega),e4,e3,uR (i:=i) (by omega)]
   exact ih
  |false=>
   rw [hd] at e3 e4 ih
   rw [if_neg (by decide)] at e4
   simp only [cP,e4,e3,oB,uR (i:=i) (by omega)]
   exact ih
theorem aHe {l:List Int} (hl:yR l) {n:Nat} {v5:Int} (hn:n≤6) {K:Nat} (hK:n<K):∀(t i k:Nat),i+t=n→t<k→cC K (n:Int) v5 (mx (zQ l) n n) k (mx (gmd (v5==2) l n) i n) (i:Int)=some (mx (gmd (v5==2) l n) n n)
 |0,i,k,hi,hk=>by
  have:i=n:=by omega
  subst this
  obtain⟨k',rfl,_⟩:=bI hk
  simp only [cC,dF (show¬(i:Int)<(i:Int) by omega),cP]
 |t+1,i,k,hi,hk=>by
  obtain⟨k',rfl,hk'⟩:=bI hk
  have h1:=aHy hl (n:=n) (i:=i) (by omega) hn hK n 0 K (by omega) hK
  simp only [Int.natCast_zero,zK] at h1
  have e3:sK (mx (gmd (v5==2) l n) i n) [mp (gmd (v5==2) l n i) n]=some (mx (gmd (v5==2) l n) (i+1) n):=apM (g:=fun r=>mp (gmd (v5==2) l n r) n) (by omega)
  have e4:=aHl (d:=v5==2) (l:=l) (show i<n by omega)
  have b1:Bd 12 (gm l n i i):=aBQ ((aGv hl hn i i).mono (by omega))
  have ih:=aHe hl (v5:=v5) hn hK t (i+1) k' (by omega) (by omega)
  simp only [cC,dT (show(i:Int)<(n:Int) by omega),cU,h1,oB,kF]
  cases hd:(v5==2) with
  |true=>
   rw [hd] at e3 e4 ih
   rw [if_pos rfl] at e4
   simp only [cU,jO (f:=gm l n i) (show i<n by omega),oB,aJr,aD5 b1 aNe (by omega) (by omega),yJ (f:=gm l n i) (show i<n by omega),e4,e3,uR (i:=i) (by omega)]
   exact ih
  |false=>
   rw [hd] at e3 e4 ih
   rw [if_neg (by decide)] at e4
   simp only [cP,e4,e3,oB,uR (i:=i) (by omega)]
   exact ih
theorem aNh {α:Type} {f:Nat→α} {n m:Nat} (h:m≤n):slL (mp f n) 0 (m:Int)=some (mp f m):=by
 unfold slL
 rw [if_pos ⟨by omega,by omega,by rw [bT];omega⟩]
 congr 1
 apply List.ext_getElem?
 intro j
 have e0:(0:Int).toNat=0:=rfl
 rw [e0,List.drop_zero,List.getElem?_take,Int.toNat_natCast,Nat.sub_zero]
 by_cases hj:j<m
 ·rw [if_pos hj,y1 (by omega),y1 hj]
 ·rw [if_neg hj,List.getElem?_eq_none (by rw [bT];omega)]
def PB6 (n:Nat) (M:Nat→Nat→Rat) (q:Nat→Rat):Prop:=(∀i c,i<n→c<n→dn 6 2 4000 (M i c))∧∀i,i<n→dn 6 2 4000 (q i)
theorem aFO {l:List Int} (hl:yR l) {most:Nat} (hm:most≤6) (hm1:4≤most):∃(n:Nat) (M:Nat→Nat→Rat) (q:Nat→Rat),n≤most∧PB6 n M q∧∀K,100≤K→iU K l (most:Int)=some (mx M n n,mp q n):=by
 obtain⟨v,v1,v2,v3⟩:=aCg hl 0 (m:=((most+1:Nat):Int)) (by omega)
 obtain⟨w,w1,w2,w3⟩:=aCg hl 1 (m:=5) (by omega)
 obtain⟨n,rfl⟩:∃n:Nat,v=n:=⟨v.toNat,by omega⟩
 have e0:aO ((most:Int)+1)=some ((most+1:Nat):Int):=uR (by omega)
 have hq:∀i,dn 6 2 4000 (vw l i):=fun i=>aF6 (aNs hl i) (by omega)
 have hM:∀i c,dn 6 2 4000 (zQ l i c):=fun i c=>aF6 (aEm hl i c) (by omega)
 have hF:∀K,100≤K→iU K l (most:Int)=cK K l (n:Int) w (mp (vw l) n) (mx (zQ l) n n):=fun K hK=>by
  have h1:=aJN hl (n:=n) (by omega) (K:=K) (by omega) n 0 K (by omega) (by omega)
  have z:mx (zQ l) 0 n=[]:=rfl
  simp only [Int.natCast_zero,zK,z] at h1
  simp only [iU,e0,oB,v1,w1,h1]
 have hG:∀K,100≤K→cA K (n:Int) w (mx (zQ l) n n) K [] 0=some (mx (gmd (w==2) l n) n n):=fun K hK=>by
  have h1:=aGF hl (n:=n) (v5:=w) (by omega) (K:=K) (by omega) n 0 K (by omega) (by omega)
  have z:mx (gmd (w==2) l n) 0 n=[]:=rfl
  simpa only [Int.natCast_zero,z] using h1
 have hG':∀K,100≤K→cC K (n:Int) w (mx (zQ l) n n) K [] 0=some (mx (gmd (w==2) l n) n n):=fun K hK=>by
  have h1:=aHe hl (n:=n) (v5:=w) (by omega) (K:=K) (by omega) n 0 K (by omega) (by omega)
  have z:mx (gmd (w==2) l n) 0 n=[]:=rfl
  simpa only [Int.natCast_zero,z] using h1
 by_cases c0:w=0
 ·exact⟨n,zQ l,vw l,by omega,⟨fun i c _ _=>hM i c,fun i _=>hq i⟩,fun K hK=>by rw [hF K hK];unfold cK;rw [qT c0,cU]⟩
 by_cases c1:n=0
 ·exact⟨n,zQ l,vw l,by omega,⟨fun i c _ _=>hM i c,fun i _=>hq i⟩,fun K hK=>by rw [hF K hK];unfold cK;rw [qF c0,cP,qT (show(n:Int)=0 by omega),cU]⟩
 by_cases c4:w=4
 ·by_cases cn:4≤n
  ·obtain⟨m1,a1,a2,a3⟩:=aCg hl 2 (m:=4) (by omega)
   obtain⟨m2,b1,b2,b3⟩:=aCg hl 3 (m:=5) (by omega)
   obtain⟨mu,p1,p2⟩:=aBs (p:=m1) (q:=2) (m:=3) (by omega) (by omega) (by omega) (by omega)
   obtain⟨c,r1,r2⟩:=aBs (p:=m2-2) (q:=2) (m:=2) (by omega) (by omega) (by omega) (by omega)
   obtain⟨two,s1,s2⟩:=aBs (p:=2) (q:=1) (m:=2) (by omega) (by omega) (by omega) (by omega)
   obtain⟨mi,t1,t2⟩:=aBs (p:=-1) (q:=1) (m:=1) (by omega) (by omega) (by omega) (by omega)
   have d2:=aF6 p2 (by omega)
   have d3:=aF6 r2 (by omega)
   have d4:=aF6 s2 (by omega)
   have d5:=aF6 t2 (by omega)
   have d6:dn 6 2 4000 (1:Rat):=aDN.mono (by omega)
   have n1:=aB8 (aBQ d3) (by omega)
   have n2:=aB8 (aBQ d4) (by omega)
   have sl:slL (mp (vw l) n) 0 3=some (mp (vw l) 3):=aNh (m:=3) (by omega)
   have ap1:sK ([]:List Rat) (mp (vw l) 3)=some (mp (vw l) 3):=aDQ (by rw [bT];simp)
   have ap2:sK (mp (vw l) 3) [(0:Rat)]=some (mp (lU (vw l) 3 0) 4):=by
    rw [apS (by rw [bT];omega),aB0 (lU (vw l) 3 0) 3,bD,hU (f:=vw l) (g:=lU (vw l) 3 0) fun j hj=>(cO (by omega)).symm]
   refine⟨4,fun i j=>at' (([[two,c,-c,0],[c,two,-two,1],[-c,-two,two,1],[mu,mi,mi,0]]:List (List Rat)).getD i []) j,lU (vw l) 3 0,by omega,⟨fun i j hi hj=>?_,fun i hi=>?_⟩,fun K hK=>?_⟩
   ·obtain rfl|rfl|rfl|rfl:i=0∨i=1∨i=2∨i=3:=by omega
    all_goals
     obtain rfl|rfl|rfl|rfl:j=0∨j=1∨j=2∨j=3:=by omega
     all_goals first|exact d2|exact d3|exact d4|exact d5|exact d6|exact d3.neg|exact d4.neg|exact dn.zero
   ·by_cases e:i=3
    ·subst e;rw [bD];exact dn.zero
    ·rw [cO e];exact hq i
   ·rw [hF K hK]
    unfold cK
    rw [qF c0,cP,qF (show¬(n:Int)=0 by omega),cP,qT c4,cU,dT (show(4:Int)≤(n:Int) by omega),cU]
    simp only [aJr,oB,a1,p1,b1,nA (show -9223372036854775808≤m2-2∧m2-2≤9223372036854775807 by omega),r1,s1,t1,n1,n2,sl,ap1,ap2]
    rfl
  ·refine⟨n,gmd (w==2) l n,vw l,by omega,⟨fun i c _ _=>aJv hl (by omega) i c,fun i _=>hq i⟩,fun K hK=>?_⟩
   rw [hF K hK]
   unfold cK
   rw [qF c0,cP,qF (show¬(n:Int)=0 by omega),cP,qT c4,cU,dF (show¬(4:Int)≤(n:Int) by omega),cP,hG' K hK,oB,kH]
 ·refine⟨n,gmd (w==2) l n,vw l,by omega,⟨fun i c _ _=>aJv hl (by omega) i c,fun i _=>hq i⟩,fun K hK=>?_⟩
  rw [hF K hK]
  unfold cK
  rw [qF c0,cP,qF (show¬(n:Int)=0 by omega),cP,qF c4,cP,hG K hK,oB,kB]
theorem aKC {n:Nat} {M:Nat→Nat→Rat} {q:Nat→Rat} (h:PB6 n M q) (hn:n≤6):Sm n 200 (rC M q n):=fun T b hT=>by
 have e:((6^2:Nat):Rat)=36:=rfl
 refine(hT.bd (D:=36) (M:=4000) (k:=200) (by decide+kernel) (fun i c hi hc=>?_) (by omega) ?_)
 ·have one:isZ 4000 ((1:Rat)*36):=⟨36,by decide+kernel,by decide⟩
  have neg:isZ 4000 ((-1:Rat)*36):=⟨-36,by decide+kernel,by decide⟩
  unfold rC
  split
  ·split
   ·exact one
   ·exact⟨0,by decide+kernel,by decide⟩
  ·split
   ·rw [←e];exact(h.1 i (c-n) hi (by omega)).neg
   ·split
    ·exact neg
    ·rw [←e];exact h.2 i hi
 ·exact Nat.lt_of_le_of_lt (Nat.pow_le_pow_right (by decide) hn) (by decide)
theorem aFe {n most:Nat}:∀(f:Nat) (T:Nat→Nat→Rat) (b:Nat→Nat) (r c cnt:Nat),(lem n most f T b r c cnt).2≠0→(lem n most f T b r c cnt).1=⟨[],[],0⟩∧((lem n most f T b r c cnt).2=15∨(lem n most f T b r c cnt).2=16)
 |0,T,b,r,c,cnt,h=>⟨rfl,Or.inr rfl⟩
 |f+1,T,b,r,c,cnt,h=>by
  unfold lem at h ⊢
  split at h
  ·rename_i h1;rw [if_pos h1];exact⟨rfl,Or.inr rfl⟩
  ·rename_i h1
   rw [if_neg h1]
   split at h
   ·exact absurd rfl h
   ·rename_i h2
    rw [if_neg h2]
    split at h
    ·exact⟨rfl,Or.inl rfl⟩
    ·exact aFe f _ _ _ _ _ h
theorem aDF {n most:Nat} {M:Nat→Nat→Rat} {q:Nat→Rat} (h:(tW M q n most).2≠0):(tW M q n most).1=⟨[],[],0⟩∧((tW M q n most).2=15∨(tW M q n most).2=16):=by
 unfold tW at h ⊢
 cases hneg:ng q n 0
 ·rw [hneg,cP] at h;exact absurd rfl h
 ·rw [hneg,cU] at h;rw [cU];exact aFe _ _ _ _ _ _ h
theorem aDC {l:List Rat} {b:Nat} (hb:Bds b l) (hB:b≤1000000) (hl:l.length≤1000000) (K:Nat):∀(t i k:Nat),i+t=l.length→t<k→gE K l l k (i:Int)=some (.go ())
 |0,i,k,hi,hk=>by
  obtain⟨k',rfl,_⟩:=bI hk
  simp only [gE,dF (show¬(i:Int)<(l.length:Int) by omega),cP]
 |t+1,i,k,hi,hk=>by
  obtain⟨k',rfl,hk'⟩:=bI hk
  have h1:=hb _ (aGl (l:=l) (i:=i) (by omega))
  simp only [gE,dT (show(i:Int)<(l.length:Int) by omega),cU,aMH (l:=l) (i:=i) (by omega),oB,aIn h1 h1 (by omega) (by omega),decide_true,Bool.not_true,cP,uR (i:=i) (by omega)]
  exact aDC hb hB hl K t (i+1) k' (by omega) (by omega)
theorem aJV {l:List Rat} {b:Nat} (hb:Bds b l) (hB:b≤1000000) (hl:l.length≤1000000) {K:Nat} (hK:l.length<K):eO K l l=some true:=by
 have h1:=aDC hb hB hl K l.length 0 K (by omega) hK
 simp only [Int.natCast_zero] at h1
 simp only [eO,nF (rfl:(l.length:Int)=(l.length:Int)),cP,h1,oB,nR]
end Go.Proofs.YtolfcbpgmfbgmaaGreat
set_option linter.unusedVariables false
namespace Go.Proofs.YtolfcbpgmfbgmaaGreat
set_option maxRecDepth 100000 in
theorem aKk (K:Nat):eE (K+60)=some true:=by kernel_rfl
theorem aGi {K:Nat} (hK:60≤K):eE K=some true:=by
 obtain⟨k,rfl⟩:=Nat.exists_eq_add_of_le hK
 rw [Nat.add_comm];exact aKk k
theorem aGu {v1:List (List Rat)×List Rat} {n:Nat} (hv:v1.2.length=n) (hn:n≤6) (K:Nat):∀(t i k:Nat),i+t=n→t<k→cF K v1 k ((3^i:Nat):Int) (i:Int)=some ((3^n:Nat):Int)
 |0,i,k,hi,hk=>by
  have:i=n:=by omega
  subst this
  obtain⟨k',rfl,_⟩:=bI hk
  simp only [cF,hv,dF (show¬(i:Int)<(i:Int) by omega),cP]
 |t+1,i,k,hi,hk=>by
  obtain⟨k',rfl,hk'⟩:=bI hk
  have hp:3^i≤3^6:=Nat.pow_le_pow_right (by decide) (by omega)
  have hs:3^(i+1)=3*3^i:=by rw [Nat.pow_succ,Nat.mul_comm]
  have e1:aO (3*((3^i:Nat):Int))=some ((3^(i+1):Nat):Int):=wB (m:=0) (by omega) (by omega)
  simp only [cF,hv,dT (show(i:Int)<(n:Int) by omega),cU,e1,oB,uR (i:=i) (by omega)]
  exact aGu hv hn K t (i+1) k' (by omega) (by omega)
theorem aAa {a0:List Int} {a1:Int} (h0:yR a0) (h1:I64 a1):∃K,jE K a0 a1=some true:=by
 obtain⟨n,M,q,hn,hP,hF⟩:=aFO h0 (most:=6) (by omega) (by omega)
 refine⟨6000,?_⟩
 have hM:zS n n 200 M:=fun i c hi hc=>(aBQ (hP.1 i c hi hc)).mono (by omega)
 have hq:∀i,i<n→Bd 200 (q i):=fun i hi=>(aBQ (hP.2 i hi)).mono (by omega)
 have hZ:=aKC hP hn
 have hp:3^n≤3^6:=Nat.pow_le_pow_right (by decide) hn
 have hS:∀m:Nat,m≤100000→m<6000→bU 6000 (mx M n n) (mp q n) (m:Int)=some (tW M q n m):=fun m hm hm2=>
  (aHB (most:=m) hM hq hZ (by omega) (by omega) hm (by omega) hm2).1
 obtain⟨r,r1,r2,r3⟩:=aBI (x:=a1) h1 (m:=1000) (by omega)
 obtain⟨r,rfl⟩:∃k:Nat,r=k:=⟨r.toNat,by omega⟩
 have e1:aO (((3^n:Nat):Int)+(r:Int))=some ((3^n+r:Nat):Int):=wB (m:=0) (by omega) (by omega)
 have l8:=aGu (v1:=(mx M n n,mp q n)) (bT q n) hn 6000 n 0 6000 (by omega) (by omega)
 have hpz:((3^0:Nat):Int)=1:=rfl
 rw [hpz,Int.natCast_zero] at l8
 have hF':=hF 6000 (by omega)
 have s6:((6:Nat):Int)=6:=rfl
 rw [s6] at hF'
 have same:=aH7 (M:=M) (q:=q) (Nat.le_refl (3^n)) (show 3^n≤3^n+r by omega)
 have hfuel:=aDc (M:=M) (q:=q) (Nat.le_refl (3^n))
 have hL:=aGi (K:=6000) (by omega)
 simp only [jE,hF',oB,l8,gS,hS (3^n) (by omega) (by omega),r1,e1,hS (3^n+r) (by omega) (by omega),same]
 generalize hX:tW M q n (3^n)=X at *
 have hz:eO 6000 X.1.z X.1.z=some true:=by
  by_cases h:X.2=0
  ·obtain⟨z1,z2⟩:=aL6 (most:=3^n) hZ (by omega) (by rw [hX];exact h)
   rw [hX] at z1 z2
   exact aJV z2 (by omega) (by omega) (by omega)
  ·have:=aDF (most:=3^n) (M:=M) (q:=q) (n:=n) (by rw [hX];exact h)
   rw [hX] at this
   rw [this.1]
   exact aJV (l:=[]) (b:=1) (fun x hx=>absurd hx List.not_mem_nil) (by omega) (by simp) (by simp)
 simp only [nF (rfl:X.2=X.2),nF (rfl:X.1.pivots=X.1.pivots),cP,hz,oB,Bool.not_true,hL]
 by_cases h:X.2=0
 ·simp only [nF h,cP]
  have hpv:=aJb (most:=3^n) (M:=M) (q:=q) (n:=n) (by rw [hX];exact h)
  rw [hX] at hpv
  rcases hpv with hpv|⟨p,p1,p2,p3,p4,p5⟩
  ·simp only [qT hpv,cU]
  ·have e2:aO ((p:Int)-1)=some ((p-1:Nat):Int):=wB (m:=0) (by omega) (by omega)
   simp only [p1,qF (show¬(p:Int)=0 by omega),cP,hS p (by omega) (by omega),oB,e2,hS (p-1) (by omega) (by omega),qT p4,cU,qT p5]
 ·have:=aDF (most:=3^n) (M:=M) (q:=q) (n:=n) (by rw [hX];exact h)
  rw [hX] at this
  have h15:X.2=15:=by
   rcases this.2 with h|h
   ·exact h
   ·exact absurd h hfuel
  simp only [nT h,cU,nF h15,cP]
end Go.Proofs.YtolfcbpgmfbgmaaGreat
