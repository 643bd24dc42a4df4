/- Texts of the proof, part 7: SE SF SG SH WV WX WW VD. -/
import Derived.Test.YtolfcbpgmfbgmaaGreatZ6
set_option linter.unusedSimpArgs false
set_option linter.unusedVariables false
namespace Go.Proofs.YtolfcbpgmfbgmaaGreat
theorem aI4{I:Nat}{a3:List (List Rat)}{f g:Nat→Rat}{φ:Rat}{w B:Nat}(s:a3.getD I []=mp f w)(y:∀k,k<w→Bd B (f k))(z:∀k,k<w→Bd B (g k))(hφ:Bd B φ)(hB:B≤200000000)(hw:w≤100000)(K:Nat):∀(t i k:Nat) (h:Nat→Rat),i+t=w→t<k→(∀j,j<i→h j=g j-φ*f j)→(∀j,i≤j→h j=g j)→iL K I a3 φ k (mp h w) (i:Int)=some (mp (fun j=>g j-φ*f j) w)
 |0,i,k,h,J,F,u,q=>by
  obtain⟨G,rfl,_⟩:=aT F;simp only[iL,s,aO,dF (show¬(i:Int)<(w:Int) by omega),bG];rw[bW fun j x=>u j (by omega)]
 |t+1,i,k,h,J,F,u,q=>by
  obtain⟨G,rfl,_⟩:=aT F;have hiw:i<w:=by omega
  have bf:=y i hiw;have bg:=z i hiw;simp only[iL,s,aO,dT (show(i:Int)<(w:Int) by omega),bL,cD (f:=f) hiw,oB,kI bf (by omega),qG (i:=i) (by omega)];by_cases e:f i=0
  ·rw[nF (zC.2 e),bG];exact aI4 s y z hφ hB hw K t (i+1) G h (by omega) (by omega) (fun j x=>by
    by_cases ej:j=i
    ·rw[ej,q i (Nat.le_refl _),e];grind
    ·exact u j (by omega)) (fun j x=>q j (by omega))
  ·rw[nT (fun h=>e (zC.1 h)),bL];simp only[cD (f:=h) hiw,q i (Nat.le_refl _),oB,yX hφ bf (by omega) (by omega),aBF bg (hφ.mul bf) (by omega) (by omega),vA (f:=h) hiw];exact aI4 s y z hφ hB hw K t (i+1) G _ (by omega) (by omega) (fun j x=>by
    by_cases ej:j=i
    ·rw[ej,aN]
    ·rw[aZ ej];exact u j (by omega)) (fun j x=>by rw[aZ (by omega)];exact q j (by omega))
theorem aQs{t:Nat}{a3:List (List Rat)}{f g:Nat→Rat}{col w B:Nat}(u:a3.getD t []=mp f w)(x:∀k,k<w→Bd B (f k))(s:∀k,k<w→Bd B (g k))(hc:col<w)(hB:B≤200000000)(hw:w≤100000){K:Nat}(y:w<K):pJ K t (col:Int) (mp g w) a3=some (mp (fun j=>g j-g col*f j) w):=by
 have q:=aI4 u x s (s col hc) hB hw K w 0 K g (by omega) y (fun j z=>by omega) (fun j _=>rfl);rw[Int.natCast_zero]at q;simp only[pJ,cD (f:=g) hc,oB,kI (s col hc) (by omega)];by_cases e:g col=0
 ·rw[qT (zC.2 e),bL,bW (f:=g) (g:=fun j=>g j-g col*f j) fun j _=>by rw[e];grind]
 ·rw[qF (fun h=>e (zC.1 h)),bG,q,oB,rQ]
theorem aFW{rs:List (List Rat)}{o:Nat}{r:List Rat}(f:o<rs.length)(h:rs.getD o []=r):rs.set o r=rs:=by
 apply List.ext_getElem?;intro j;rw[List.getElem?_set];by_cases e:o=j
 ·subst e;rw[if_pos rfl,if_pos f,List.getElem?_eq_getElem f];rw[List.getD_eq_getElem?_getD,List.getElem?_eq_getElem f]at h;exact congrArg some h.symm
 ·rw[if_neg e]
theorem aI5{q a1:Nat}{a3:List (List Rat)}{f g:Nat→Rat}{φ:Rat}{w B:Nat}(hne:a1≠q)(x:a3.getD a1 []=mp f w)(I:∀k,k<w→Bd B (f k))(J:∀k,k<w→Bd B (g k))(hφ:Bd B φ)(hB:B≤200000000)(hw:w≤100000)(K:Nat):∀(t i k:Nat) (rs:List (List Rat)) (h:Nat→Rat),i+t=w→t<k→q<rs.length→rs.getD a1 []=mp f w→rs.getD q []=mp h w→(∀j,j<i→h j=g j-φ*f j)→(∀j,i≤j→h j=g j)→iN K q a1 a3 φ k rs (i:Int)=some (rs.set q (mp (fun j=>g j-φ*f j) w))
 |0,i,k,rs,h,U,L,s,y,z,F,u=>by
  obtain⟨O,rfl,_⟩:=aT L;simp only[iN,x,aO,dF (show¬(i:Int)<(w:Int) by omega),bG];rw[aFW s (by rw[z];exact bW fun j G=>F j (by omega))]
 |t+1,i,k,rs,h,U,L,s,y,z,F,u=>by
  obtain⟨O,rfl,_⟩:=aT L;have hiw:i<w:=by omega
  have bf:=I i hiw;have bg:=J i hiw;simp only[iN,x,aO,dT (show(i:Int)<(w:Int) by omega),bL,y,cD (f:=f) hiw,oB,kI bf (by omega),qG (i:=i) (by omega)];by_cases e:f i=0
  ·rw[nF (zC.2 e),bG];exact aI5 hne x I J hφ hB hw K t (i+1) O rs h (by omega) (by omega) s y z (fun j G=>by
    by_cases ej:j=i
    ·rw[ej,u i (Nat.le_refl _),e];grind
    ·exact F j (by omega)) (fun j G=>u j (by omega))
  ·rw[nT (fun h=>e (zC.1 h)),bL];simp only[z,cD (f:=h) hiw,u i (Nat.le_refl _),oB,yX hφ bf (by omega) (by omega),aBF bg (hφ.mul bf) (by omega) (by omega),vA (f:=h) hiw];rw[aI5 hne x I J hφ hB hw K t (i+1) O (rs.set q (mp (gN h i (g i-φ*f i)) w)) (gN h i (g i-φ*f i)) (by omega) (by omega) (by rw[List.length_set];exact s) (by rw[aBd s,if_neg hne];exact y) (by rw[aBd s,if_pos rfl]) (fun j G=>by
    by_cases ej:j=i
    ·rw[ej,aN]
    ·rw[aZ ej];exact F j (by omega)) (fun j G=>by rw[aZ (by omega)];exact u j (by omega)),List.set_set]
theorem aTQ{q a1:Nat}{a3:List (List Rat)}{f g:Nat→Rat}{col w B:Nat}(hne:a1≠q)(x:a3.getD a1 []=mp f w)(t:a3.getD q []=mp g w)(y:q<a3.length)(z:∀k,k<w→Bd B (f k))(u:∀k,k<w→Bd B (g k))(hc:col<w)(hB:B≤200000000)(hw:w≤100000){K:Nat}(F:w<K):s6 K q a1 (col:Int) a3=some (a3.set q (mp (fun j=>g j-g col*f j) w)):=by
 have s:=aI5 hne x z u (u col hc) hB hw K w 0 K a3 g (by omega) F y x t (fun j G=>by omega) (fun j _=>rfl);rw[Int.natCast_zero]at s;simp only[s6,t,cD (f:=g) hc,oB,kI (u col hc) (by omega)];by_cases e:g col=0
 ·rw[qT (zC.2 e),bL,aFW y (by rw[t];exact bW fun j _=>by rw[e];grind)]
 ·rw[qF (fun h=>e (zC.1 h)),bG,s,oB,rS]
def lA(b:Nat→Nat)(i:Nat):Int:=((b i:Nat):Int)
theorem aOR{b:Nat→Nat}{r col:Nat}:gN (lA b) r ((col:Nat):Int)=lA (gN b r col):=by
 funext i;unfold lA gN;split<;>rfl
theorem aME{n w r col B:Nat}{od:Nat→Nat}{T:Nat→Nat→Rat}{G:List (List Rat)}(s:tE n w G od T)(hr:r<n)(hc:col<w)(u:qX n w B T)(hB:B≤200000000)(hw:w≤100000)(K:Nat):∀(t i k:Nat) (rs:List (List Rat)) (h:Nat→Rat),i+t=w→t<k→od r<rs.length→rs.getD (od r) []=mp h w→(∀j,j<i→h j=y7 T r col j)→(∀j,i≤j→h j=T r j)→eP K (r:Int) (mp od n) G (T r col) (od r) k rs (i:Int)=some (rs.set (od r) (mp (y7 T r col) w))
 |0,i,k,rs,h,L,x,q,y,z,F=>by
  obtain⟨I,rfl,_⟩:=aT x;simp only[eP,s.row r hr,aO,dF (show¬(i:Int)<(w:Int) by omega),bG];rw[aFW q (by rw[y];exact bW fun j J=>z j (by omega))]
 |t+1,i,k,rs,h,L,x,q,y,z,F=>by
  obtain⟨I,rfl,_⟩:=aT x;have hiw:i<w:=by omega
  have O:=u r i hr hiw;have b2:=u r col hr hc;have e:T r i/T r col=y7 T r col i:=rfl;simp only[eP,s.row r hr,aO,dT (show(i:Int)<(w:Int) by omega),bL,y,cD (f:=h) hiw,F i (Nat.le_refl _),oB,cD (f:=od) hr,aBw O b2 (by omega) (by omega),vA (f:=h) hiw,qG (i:=i) (by omega),e];rw[aME s hr hc u hB hw K t (i+1) I (rs.set (od r) (mp (gN h i (y7 T r col i)) w)) (gN h i (y7 T r col i)) (by omega) (by omega) (by rw[List.length_set];exact q) (by rw[aBd q,if_pos rfl]) (fun j J=>by
    by_cases ej:j=i
    ·rw[ej,aN]
    ·rw[aZ ej];exact z j (by omega)) (fun j J=>by rw[aZ (by omega)];exact F j (by omega)),List.set_set]
def ptb(T:Nat→Nat→Rat)(r col i j:Nat):Nat→Rat:=if j=r then y7 T r col else if j<i then qC T r col j else T j
theorem aII{n w r col B:Nat}{od:Nat→Nat}{T:Nat→Nat→Rat}(hr:r<n)(hc:col<w)(x:qX n w B T)(hB:B≤100000000)(hw:w≤100000)(I:n≤100000){K:Nat}(y:w<K):∀(t i k:Nat) (rs:List (List Rat)),i+t=n→t<k→tE n w rs od (ptb T r col i)→∃rs',tE n w rs' od (qC T r col)∧cR K (r:Int) (col:Int) (mp od n) k (mp od n) rs (i:Int)=some (mp od n,rs')
 |0,i,k,rs,O,s,q=>by
  obtain⟨z,rfl,_⟩:=aT s;refine⟨rs,q.congr fun j k J _=>?_,by simp only[cR,aO,dF (show¬(i:Int)<(n:Int) by omega),bG]⟩;unfold ptb;by_cases e:j=r
  ·rw[if_pos e,e];unfold qC y7;rw[if_pos rfl]
  ·rw[if_neg e,if_pos (by omega)]
 |t+1,i,k,rs,O,s,q=>by
  obtain⟨z,rfl,_⟩:=aT s;have hin:i<n:=by omega
  by_cases e:i=r
  ·obtain⟨rs',F,G⟩:=aII hr hc x hB hw I y t (i+1) z rs (by omega) (by omega) (q.congr fun j k J _=>by
    unfold ptb;by_cases h:j=r
    ·rw[if_pos h,if_pos h]
    ·rw[if_neg h,if_neg h];by_cases u:j<i
     ·rw[if_pos u,if_pos (by omega)]
     ·rw[if_neg u,if_neg (by omega)])
   exact⟨rs',F,by simp only[cR,aO,dT (show(i:Int)<(n:Int) by omega),bL,cD (f:=od) hin,oB,nF (show(i:Int)=(r:Int) by omega),bG,qG (i:=i) (by omega),G]⟩
  ·have hne:od r≠od i:=fun h=>e (q.inj r i hr hin h).symm
   have U:rs.getD (od r) []=mp (y7 T r col) w:=by rw[q.row r hr];unfold ptb;rw[if_pos rfl]
   have V:rs.getD (od i) []=mp (T i) w:=by rw[q.row i hin];unfold ptb;rw[if_neg e,if_neg (Nat.lt_irrefl i)]
   have X:=aTQ (col:=col) (B:=B+B) (K:=K) hne U V (q.lt i hin) (fun k s=>aH9 x hr hc s) (fun k s=>(x i k hin s).mono (by omega)) hc (by omega) hw y;obtain⟨rs',F,G⟩:=aII hr hc x hB hw I y t (i+1) z (rs.set (od i) (mp (fun j=>T i j-T i col*y7 T r col j) w)) (by omega) (by omega) ((q.set hin (fun j=>T i j-T i col*y7 T r col j)).congr fun j k J _=>by
    by_cases h:j=i
    ·rw[h,aN];unfold ptb;rw[if_neg e,if_pos (by omega)];unfold qC y7;rw[if_neg e]
    ·rw[aZ h];unfold ptb;by_cases u:j=r
     ·rw[if_pos u,if_pos u]
     ·rw[if_neg u,if_neg u];by_cases L:j<i
      ·rw[if_pos L,if_pos (by omega)]
      ·rw[if_neg L,if_neg (by omega)])
   exact⟨rs',F,by simp only[cR,aO,dT (show(i:Int)<(n:Int) by omega),bL,cD (f:=od) hin,cD (f:=od) hr,oB,nT (show(i:Int)≠(r:Int) by omega),X,qG (i:=i) (by omega),G]⟩
theorem aO1{n w r col B:Nat}{od:Nat→Nat}{T:Nat→Nat→Rat}{g:Nat→Rat}{b:Nat→Nat}{rs:List (List Rat)}{a2 a3 a4:Int}(h:tE n w rs od T)(hr:r<n)(hc:col<w)(s:qX n w B T)(y:∀k,k<w→Bd B (g k))(hB:B≤100000000)(hw:w≤100000)(z:n≤100000){K:Nat}(J:w+n<K):∃rs',tE n w rs' od (qC T r col)∧jX K (r:Int) (col:Int) a2 a3 a4 (mp od n) (mp g w) (mp (lA b) n) rs=some (mp od n,mp (gpv g T r col) w,mp (lA (gN b r col)) n,rs'):=by
 have q:=aME h hr hc s (by omega) hw K w 0 K rs (T r) (by omega) (by omega) (h.lt r hr) (h.row r hr) (fun j F=>by omega) (fun j _=>rfl);rw[Int.natCast_zero]at q;obtain⟨rs',u,x⟩:=aII (od:=od) hr hc s hB hw z (show w<K by omega) n 0 K (rs.set (od r) (mp (y7 T r col) w)) (by omega) (by omega) ((h.set hr (y7 T r col)).congr fun j k F _=>by
  unfold ptb;by_cases e:j=r
  ·rw[e,aN,if_pos rfl]
  ·rw[aZ e,if_neg e,if_neg (by omega)])
 rw[Int.natCast_zero]at x;have G:rs'.getD (od r) []=mp (y7 T r col) w:=by rw[u.row r hr];exact bW fun k _=>by unfold qC y7;rw[if_pos rfl]
 have I:=aQs (col:=col) (B:=B+B) (K:=K) G (fun k t=>aH9 s hr hc t) (fun k t=>(y k t).mono (by omega)) hc (by omega) hw (by omega);refine⟨rs',u,?_⟩;simp only[jX,cD (f:=od) hr,oB,h.row r hr,cD (f:=T r) hc,q,mE,x,mF,I,cD (f:=lA b) hr,vA (f:=lA b) hr,aOR];rfl
theorem aLR{C:Nat}{x:Int→Option Rat}{c:Nat→Rat}(y:∀k:Nat,k<C→x (k:Int)=some (c k))(F:C≤100000)(K:Nat):∀(t i k:Nat) (h:Nat→Rat),i+t=C→t<k→(∀j,j<i→h j=c j)→h C=c C→eU K x (C:Int) k (mp h (C+1)) (i:Int)=some (mp c (C+1))
 |0,i,k,h,G,q,s,u=>by
  obtain⟨z,rfl,_⟩:=aT q;simp only[eU,dF (show¬(i:Int)<(C:Int) by omega),bG];refine congrArg some (bW fun j I=>?_);by_cases e:j=C
  ·rw[e];exact u
  ·exact s j (by omega)
 |t+1,i,k,h,G,q,s,u=>by
  obtain⟨z,rfl,_⟩:=aT q;have hiw:i<C+1:=by omega
  simp only[eU,dT (show(i:Int)<(C:Int) by omega),bL,y i (by omega),oB,cD (f:=h) hiw,vA (f:=h) hiw,qG (i:=i) (by omega)];exact aLR y F K t (i+1) z _ (by omega) (by omega) (fun j I=>by
    by_cases ej:j=i
    ·rw[ej,aN]
    ·rw[aZ ej];exact s j (by omega)) (by rw[aZ (by omega)];exact u)
theorem aLT{n w B:Nat}{od b:Nat→Nat}{T:Nat→Nat→Rat}{c:Nat→Rat}{rs:List (List Rat)}(q:tE n w rs od T)(hb:∀i,i<n→b i<w)(s:qX n w B T)(hp:∀m,m≤n→∀k,k<w→Bd B (prc c T b m k))(hB:B≤200000000)(hw:w≤100000)(z:n≤100000){K:Nat}(u:w<K):∀(t i k:Nat),i+t=n→t<k→eV K (mp od n) (mp (lA b) n) rs k (mp (prc c T b i) w) (i:Int)=some (mp (prc c T b n) w)
 |0,i,k,F,h=>by
  obtain⟨x,rfl,_⟩:=aT h;have:i=n:=by omega
  subst this;simp only[eV,aO,dF (show¬(i:Int)<(i:Int) by omega),bG]
 |t+1,i,k,F,h=>by
  obtain⟨x,rfl,_⟩:=aT h;have hin:i<n:=by omega
  have y:=aQs (col:=b i) (B:=B) (K:=K) (q.row i hin) (fun k h=>s i k hin h) (fun k h=>hp i (by omega) k h) (hb i hin) hB hw u;have e:(fun j=>prc c T b i j-prc c T b i (b i)*T i j)=prc c T b (i+1):=rfl;rw[e]at y;have G:lA b i=((b i:Nat):Int):=rfl;simp only[eV,aO,dT (show(i:Int)<(n:Int) by omega),bL,cD (f:=lA b) hin,cD (f:=od) hin,oB,G,y,qG (i:=i) (by omega)];exact aLT q hb s hp hB hw z u t (i+1) x (by omega) (by omega)
theorem aOj{n C B:Nat}{od b:Nat→Nat}{T:Nat→Nat→Rat}{c:Nat→Rat}{rs:List (List Rat)}{q:Int→Option Rat}{a1 a2:Int}{a5:List Rat}(s:tE n (C+1) rs od T)(t:∀k:Nat,k<C→q (k:Int)=some (c k))(h:c C=0)(hb:∀i,i<n→b i<C+1)(u:qX n (C+1) B T)(hp:∀m,m≤n→∀k,k<C+1→Bd B (prc c T b m k))(hB:B≤200000000)(y:C≤10000)(x:n≤100000){K:Nat}(F:C+1+n<K):iA K q a1 a2 (C:Int) (mp od n) a5 (mp (lA b) n) rs=some (mp (prc c T b n) (C+1)):=by
 have f:=aLR t (by omega) K C 0 K (fun _=>0) (by omega) (by omega) (fun j G=>by omega) h.symm;have e:=aLT s hb u hp hB (by omega) x (show C+1<K by omega) n 0 K (by omega) (by omega);have z:prc c T b 0=c:=rfl;rw[z]at e;rw[Int.natCast_zero]at f e;simp only[iA,qG (i:=C) (by omega),oB,aC4 (n:=C+1) (z:=(0:Rat)) (by omega),f,mG,e,mD]
def oi(s:Option Nat):Int:=match s with|none=>-1|some q=>(q:Int)
theorem aDW{n w C col B:Nat}{od b:Nat→Nat}{T:Nat→Nat→Rat}{rs:List (List Rat)}(z:tE n w rs od T)(j:qX n w B T)(hc:col<w)(u:C<w)(hB:B≤200000000)(G:n≤100000)(K:Nat):∀(t i k:Nat) (s:Option Nat) (q:Rat),i+t=n→t<k→(∀r,s=some r→r<n∧q=rto T C col r)→bT K (col:Int) (C:Int) (mp od n) (mp (lA b) n) rs k q (oi s) (i:Int)=some (oi (lvs T b C col t i s))
 |0,i,k,s,q,Y,O,hs=>by
  obtain⟨F,rfl,_⟩:=aT O;simp only[bT,aO,dF (show¬(i:Int)<(n:Int) by omega),bG,lvs]
 |t+1,i,k,s,q,Y,O,hs=>by
  obtain⟨F,rfl,_⟩:=aT O;have hin:i<n:=by omega
  have U:=j i col hin hc;have b2:=j i C hin u;simp only[bT,aO,dT (show(i:Int)<(n:Int) by omega),bL,cD (f:=od) hin,oB,z.row i hin,cD (f:=T i) hc,cD (f:=T i) u,kI U (by omega),aBw b2 U (by omega) (by omega),qG (i:=i) (by omega),lvs];by_cases e:0<T i col
  ·rw[decide_eq_false (fun hle=>absurd (aDX.2 e) (Int.not_lt.2 hle)),bG,bG];cases s with
   |none=>
    have ih:=aDW (b:=b) z j hc u hB G K t (i+1) F (some i) (T i C/T i col) (by omega) (by omega) (fun r hr=>by cases hr;exact⟨hin,rfl⟩);have I:(oi none)=-1:=rfl;simp only[I,dF (show¬(0:Int)≤-1 by omega),bG,fO,dT (show(-1:Int)<0 by omega),bL,qG (i:=i) (by omega),oB];exact ih
   |some r=>
    obtain⟨J,V⟩:=hs r rfl;have I:(oi (some r))=(r:Int):=rfl;have b3:Bd (B+B) q:=by rw[V];exact(j r C J u).div (j r col J hc)
    have x:=aDW (b:=b) z j hc u hB G K t (i+1) F (some i) (T i C/T i col) (by omega) (by omega) (fun r hr=>by cases hr;exact⟨hin,rfl⟩);have y:=aDW (b:=b) z j hc u hB G K t (i+1) F (some r) q (by omega) (by omega) (fun r hr=>by cases hr;exact⟨J,V⟩);have ei:(oi (some i))=(i:Int):=rfl;rw[ei]at x;rw[I]at y;simp only[I,dT (show(0:Int)≤(r:Int) by omega),bL,aMO (b2.div U) b3 (by omega) (by omega),oB,fO,aFe.2,qG (i:=i) (by omega),cD (f:=lA b) hin,cD (f:=lA b) J];unfold bet;rw[show rto T C col r=q from V.symm,show rto T C col i=T i C/T i col from rfl];by_cases X:T i C/T i col<q
    ·rw[decide_eq_true X,bL,bL,bL];exact x
    ·rw[decide_eq_false X,bG,bG];by_cases L:T i C/T i col=q
     ·rw[qT (aFe.1.2 L),bL,decide_eq_true L,bL];have e3:decide (lA b i<lA b r)=decide (b i<b r):=by
       rw[decide_eq_decide];unfold lA;omega
      rw[e3];cases decide (b i<b r) with
      |true=>rw[bL,bL];exact x
      |false=>rw[bG,bG];exact y
     ·rw[qF (fun h=>L (aFe.1.1 h)),bG,decide_eq_false L,bG,bG];exact y
  ·rw[decide_eq_true (aFJ e),bL,bL];exact aDW z j hc u hB G K t (i+1) F s q (by omega) (by omega) hs
theorem aUI{n w C col B:Nat}{od b:Nat→Nat}{T:Nat→Nat→Rat}{rs:List (List Rat)}{a1 a2:Int}{a5:List Rat}(f:tE n w rs od T)(h:qX n w B T)(hc:col<w)(j:C<w)(hB:B≤200000000)(k:n≤100000){K:Nat}(q:n<K):kY K (col:Int) a1 a2 (C:Int) (mp od n) a5 (mp (lA b) n) rs=some (oi (lvs T b C col n 0 none)):=by
 have e:=aDW (b:=b) f h hc j hB k K n 0 K none 0 (by omega) q (fun r hr=>by cases hr);have s:(oi none)=-1:=rfl;rw[s,Int.natCast_zero]at e;simp only[kY,e,oB,lE]
def vB(v:Nat)(A:Nat→Nat→Rat)(β:Nat→Rat)(i:Nat):aS:=⟨mp (A i) v,β i⟩
def w9(v m:Nat)(A:Nat→Nat→Rat)(β γ:Nat→Rat):aW:=⟨v,mp (vB v A β) m,mp γ v⟩
theorem aEg{f:Nat→Rat}{w k B:Nat}{d:Bool}{x:Rat}(e:k<w)(h:Bd B x)(hB:B≤1073741824):lF d (mp f w) (k:Int) x=some (mp (gN f k (if d=true then -x else x)) w):=by
 cases d with
 |true=>simp only[lF,bL,yU h hB,oB,cD (f:=f) e,vA (f:=f) e,if_true]
 |false=>simp only[lF,bG,cD (f:=f) e,vA (f:=f) e,oB,Bool.false_eq_true,if_false]
theorem aMI{β:Nat→Rat}{i:Nat}{x:Rat}:(if decide ((β i).num.sign<0)=true then -x else x)=ngx β i x:=by
 unfold ngx;by_cases e:β i<0
 ·rw[if_pos e,decide_eq_true (aEd.2 e),if_pos rfl]
 ·rw[if_neg e,decide_eq_false (fun h=>e (aEd.1 h)),if_neg (by decide)]
def mrw(v:Nat)(A:Nat→Nat→Rat)(β:Nat→Rat)(i t k:Nat):Rat:=if k<t then ngx β i (A i k) else if v≤k∧k<v+t then ngx β i (-(A i (k-v))) else 0
theorem aOA{v:Nat}{A:Nat→Nat→Rat}{β:Nat→Rat}{i t:Nat}(q:t<v):gN (gN (mrw v A β i t) t (ngx β i (A i t))) (v+t) (ngx β i (-(A i t)))=mrw v A β i (t+1):=by
 funext k;by_cases e:k=v+t
 ·rw[e,aN];unfold mrw;rw[if_neg (by omega),if_pos (by omega),show v+t-v=t by omega]
 ·rw[aZ e];by_cases f:k=t
  ·rw[f,aN];unfold mrw;rw[if_pos (by omega)]
  ·rw[aZ f];unfold mrw;by_cases h:k<t
   ·rw[if_pos h,if_pos (by omega)]
   ·rw[if_neg h,if_neg (show¬k<t+1 by omega)];by_cases j:v≤k∧k<v+t
    ·rw[if_pos j,if_pos (by omega)]
    ·rw[if_neg j,if_neg (by omega)]
theorem aJG{v w B:Nat}{p:aW}{A:Nat→Nat→Rat}{β:Nat→Rat}{i:Nat}(hp:p.vars=(v:Int))(e:∀k,k<v→Bd B (A i k))(hB:B≤1073741824)(hv:v≤1000)(hw:2*v≤w)(K:Nat):∀(t k f:Nat),k+t=v→t<f→jP K p (vB v A β i) (β i).num.sign f (mp (mrw v A β i k) w) (k:Int)=some (mp (mrw v A β i v) w)
 |0,k,f,q,h=>by
  obtain⟨j,rfl,_⟩:=aT h;have:k=v:=by omega
  subst this;simp only[jP,vB,aO,dF (show¬(k:Int)<(k:Int) by omega),bG]
 |t+1,k,f,q,h=>by
  obtain⟨j,rfl,_⟩:=aT h;have hkv:k<v:=by omega
  have s:aV ((v:Int)+(k:Int))=some ((v+k:Nat):Int):=xH (m:=0) (by omega) (by omega);have ih:=aJG (β:=β) hp e hB hv hw K t (k+1) j (by omega) (by omega);have hs:(vB v A β i).a=mp (A i) v:=rfl;simp only[jP,hs,aO,dT (show(k:Int)<(v:Int) by omega),bL,cD (f:=A i) hkv,oB,aEg (w:=w) (k:=k) (show k<w by omega) (e k hkv) hB,hp,s,yU (e k hkv) hB,aEg (w:=w) (k:=v+k) (show v+k<w by omega) (e k hkv).neg hB,aMI,aOA hkv,qG (i:=k) (by omega)];exact ih
theorem aPv{v m:Nat}{A:Nat→Nat→Rat}{β:Nat→Rat}{i k:Nat}(u:i<m)(x:k<2*v+2*m+1):(if β i<0 then gN (gN (gN (mrw v A β i v) (2*v+i) (ngx β i 1)) (2*v+2*m) (ngx β i (β i))) (2*v+m+i) 1 else gN (gN (mrw v A β i v) (2*v+i) (ngx β i 1)) (2*v+2*m) (ngx β i (β i))) k=mV v m A β i k:=by
 have key:gN (gN (mrw v A β i v) (2*v+i) (ngx β i 1)) (2*v+2*m) (ngx β i (β i)) k=if k=2*v+2*m then ngx β i (β i) else if k=2*v+i then ngx β i 1 else mrw v A β i v k:=by
  by_cases e:k=2*v+2*m
  ·rw[if_pos e,e,aN]
  ·rw[aZ e,if_neg e];by_cases f:k=2*v+i
   ·rw[if_pos f,f,aN]
   ·rw[aZ f,if_neg f]
 have base:k≠2*v+m+i∨¬β i<0→(if k=2*v+2*m then ngx β i (β i) else if k=2*v+i then ngx β i 1 else mrw v A β i v k)=mV v m A β i k:=fun hne=>by
  unfold mV mrw;by_cases j:k<v
  ·rw[if_neg (by omega),if_neg (by omega),if_pos j,if_pos j]
  ·rw[if_neg j,if_neg j];by_cases f:k<2*v
   ·rw[if_neg (by omega),if_neg (by omega),if_pos (by omega),if_pos f]
   ·rw[if_neg f,if_neg (show¬(v≤k∧k<v+v) by omega)];by_cases s:k<2*v+m
    ·rw[if_pos s,if_neg (by omega)]
    ·rw[if_neg s];by_cases t:k<2*v+2*m
     ·rw[if_pos t,if_neg (by omega),if_neg (by omega),if_neg (fun h=>hne.elim (fun q=>q h.1) fun q=>q h.2)]
     ·rw[if_neg t,if_pos (by omega)]
 by_cases e:β i<0
 ·rw[if_pos e];by_cases f:k=2*v+m+i
  ·rw[f,aN,show 2*v+m+i=v+v+m+i by omega,aJb u,if_pos ⟨rfl,e⟩]
  ·rw[aZ f,key];exact base (.inl f)
 ·rw[if_neg e,key];exact base (.inr e)
theorem aMK{v m B:Nat}{A:Nat→Nat→Rat}{β γ:Nat→Rat}(s:qX m v B A)(hβ:∀i,i<m→Bd B (β i))(hB1:1≤B)(hB:B≤1073741824)(hv:v≤1000)(hm:m≤1000){K:Nat}(u:v<K):∀(t i k:Nat),i+t=m→t<k→f0 K (w9 v m A β γ) ((2*v+2*m:Nat):Int) k (mp (lA (aA0 v m β)) i) (mp id i) (mx (mV v m A β) i (2*v+2*m+1)) (i:Int)=some (mp (lA (aA0 v m β)) m,mp id m,mx (mV v m A β) m (2*v+2*m+1))
 |0,i,k,y,j=>by
  obtain⟨x,rfl,_⟩:=aT j;have:i=m:=by omega
  subst this;simp only[f0,w9,aO,dF (show¬(i:Int)<(i:Int) by omega),bG]
 |t+1,i,k,y,j=>by
  obtain⟨x,rfl,_⟩:=aT j;have him:i<m:=by omega
  have q:=aJG (p:=w9 v m A β γ) (w:=2*v+2*m+1) (β:=β) (i:=i) rfl (fun k j=>s i k him j) hB hv (by omega) K v 0 K (by omega) u;have z0:mp (mrw v A β i 0) (2*v+2*m+1)=mp (fun _=>(0:Rat)) (2*v+2*m+1):=bW fun k _=>by unfold mrw;rw[if_neg (by omega),if_neg (by omega)]
  rw[z0,Int.natCast_zero]at q;have F:aV (2*(v:Int))=some ((2*v:Nat):Int):=xH (m:=0) (by omega) (by omega);have G:aV (((2*v:Nat):Int)+(i:Int))=some ((2*v+i:Nat):Int):=xH (m:=0) (by omega) (by omega);have I:aV (((2*v:Nat):Int)+(m:Int))=some ((2*v+m:Nat):Int):=xH (m:=0) (by omega) (by omega);have J:aV (((2*v+m:Nat):Int)+(i:Int))=some ((2*v+m+i:Nat):Int):=xH (m:=0) (by omega) (by omega);have one:Bd B (1:Rat):=Bd.mono (m:=1) (by constructor<;>decide) hB1;have hb:(vB v A β i).b=β i:=rfl;have L:(w9 v m A β γ).lines=mp (vB v A β) m:=rfl;have hvr:(w9 v m A β γ).vars=(v:Int):=rfl;have ih:=aMK (γ:=γ) s hβ hB1 hB hv hm u t (i+1) x (by omega) (by omega);have row:=fun k j=>aPv (v:=v) (A:=A) (β:=β) (k:=k) him j
  have a1:tC (mp id i) [(mx (mV v m A β) i (2*v+2*m+1)).length]=some (mp id (i+1)):=by rw[iE];exact apM (g:=id) (by omega)
  have a2:mx (mV v m A β) i (2*v+2*m+1)++[mp (mV v m A β i) (2*v+2*m+1)]=mx (mV v m A β) (i+1) (2*v+2*m+1):=(aAL (fun i=>mp (mV v m A β i) (2*v+2*m+1)) i).symm;simp only[f0,L,hvr,aO,dT (show(i:Int)<(m:Int) by omega),bL,cD (f:=vB v A β) him,oB,qG (i:=2*v+2*m) (by omega),aC4 (n:=2*v+2*m+1) (z:=(0:Rat)) (by omega),hb,kI (hβ i him) hB,q,qL,F,G,I,J,aEo,aEg (w:=2*v+2*m+1) (k:=2*v+i) (show 2*v+i<2*v+2*m+1 by omega) one hB,aEg (w:=2*v+2*m+1) (k:=2*v+2*m) (show 2*v+2*m<2*v+2*m+1 by omega) (hβ i him) hB,aMI,nE];by_cases e:β i<0
  ·have hbi:lA (aA0 v m β) i=((2*v+m+i:Nat):Int):=by unfold lA aA0;rw[if_pos e]
   have a3:tC (mp (lA (aA0 v m β)) i) [((2*v+m+i:Nat):Int)]=some (mp (lA (aA0 v m β)) (i+1)):=by rw[←hbi];exact apM (g:=lA (aA0 v m β)) (by omega)
   have a4:mp (gN (gN (gN (mrw v A β i v) (2*v+i) (ngx β i 1)) (2*v+2*m) (ngx β i (β i))) (2*v+m+i) 1) (2*v+2*m+1)=mp (mV v m A β i) (2*v+2*m+1):=bW fun k j=>by
    have:=row k j;rw[if_pos e]at this;exact this
   simp only[dT (aEd.2 e),bL,cD (f:=gN (gN (mrw v A β i v) (2*v+i) (ngx β i 1)) (2*v+2*m) (ngx β i (β i))) (show 2*v+m+i<2*v+2*m+1 by omega),vA (f:=gN (gN (mrw v A β i v) (2*v+i) (ngx β i 1)) (2*v+2*m) (ngx β i (β i))) (show 2*v+m+i<2*v+2*m+1 by omega),oB,a4,a1,a3,a2,qG (i:=i) (by omega)];exact ih
  ·have hbi:lA (aA0 v m β) i=((2*v+i:Nat):Int):=by unfold lA aA0;rw[if_neg e]
   have a3:tC (mp (lA (aA0 v m β)) i) [((2*v+i:Nat):Int)]=some (mp (lA (aA0 v m β)) (i+1)):=by rw[←hbi];exact apM (g:=lA (aA0 v m β)) (by omega)
   have a4:mp (gN (gN (mrw v A β i v) (2*v+i) (ngx β i 1)) (2*v+2*m) (ngx β i (β i))) (2*v+2*m+1)=mp (mV v m A β i) (2*v+2*m+1):=bW fun k j=>by
    have:=row k j;rw[if_neg e]at this;exact this
   simp only[dF (fun h=>e (aEd.1 h)),bG,oB,a4,a1,a3,a2,qG (i:=i) (by omega)];exact ih
theorem aQ7{v m B:Nat}{A:Nat→Nat→Rat}{β γ:Nat→Rat}(h:qX m v B A)(hβ:∀i,i<m→Bd B (β i))(hB1:1≤B)(hB:B≤1073741824)(hv:v≤1000)(hm:m≤1000){K:Nat}(j:v<K)(f:m<K):sH K (w9 v m A β γ)=some ((v:Int),(m:Int),((2*v+2*m:Nat):Int),mp id m,[],mp (lA (aA0 v m β)) m,mx (mV v m A β) m (2*v+2*m+1)):=by
 have e:=aMK (γ:=γ) h hβ hB1 hB hv hm j m 0 K (by omega) f;have z1:mx (mV v m A β) 0 (2*v+2*m+1)=[]:=rfl;have z2:mp id 0=([]:List Nat):=rfl;rw[z1,wD,z2,Int.natCast_zero]at e;have k:aV (2*(v:Int))=some ((2*v:Nat):Int):=xH (m:=0) (by omega) (by omega);have q:aV (2*(m:Int))=some ((2*m:Nat):Int):=xH (m:=0) (by omega) (by omega);have s:aV (((2*v:Nat):Int)+((2*m:Nat):Int))=some ((2*v+2*m:Nat):Int):=xH (m:=0) (by omega) (by omega);have t:(w9 v m A β γ).lines=mp (vB v A β) m:=rfl;have hvr:(w9 v m A β γ).vars=(v:Int):=rfl;simp only[sH,t,hvr,aO,k,q,s,oB,e,rK]
theorem aJl{v m:Nat}{A:Nat→Nat→Rat}{β:Nat→Rat}:tE m (2*v+2*m+1) (mx (mV v m A β) m (2*v+2*m+1)) id (mV v m A β):=
 ⟨fun i f=>by rw[iE];exact f,fun i j _ _ e=>e,fun i f=>by unfold mx;rw[List.getD_eq_getElem?_getD,show id i=i from rfl,wJ f];rfl⟩
def Szx(n C B:Nat)(Z:Nat→Nat→Rat)(c:Nat→Rat):Prop:=∀T g b,SX n C Z c T g b→qX n (C+1) B T∧∀k,k<C+1→Bd B (g k)
theorem aEa{w en B:Nat}{yF:Int→(List Nat)→(List Rat)→(List Int)→(List (List Rat))→Bool→Int→Option (Nat×(List Nat)×(List Rat)×(List Int)×(List (List Rat))×Bool×Int)}{g:Nat→Rat}{od:List Nat}{bs:List Int}{rs:List (List Rat)}{fl:Bool}{cr:Int}{code:Nat}{x:(List Nat)×(List Rat)×(List Int)×(List (List Rat))×Bool×Int}(s:∀k,k<w→Bd B (g k))(hB:B≤1073741824)(hen:en≤w)(hw:w≤100000)(u:∀col,ent g en 0=some col→yF (col:Int) od (mp g w) bs rs fl cr=some (code,x))(hc:code≠0)(K:Nat):∀(t i k:Nat),i+t=en→t<k→ent g en 0=ent g t i→bV K (en:Int) yF k od (mp g w) bs rs fl cr (i:Int)=some (match ent g t i with|none=>.go (od,mp g w,bs,rs,fl,cr)|some _=>.ret (code,x))
 |0,i,k,z,q,he=>by
  obtain⟨y,rfl,_⟩:=aT q;simp only[bV,dF (show¬(i:Int)<(en:Int) by omega),bG,ent]
 |t+1,i,k,z,q,he=>by
  obtain⟨y,rfl,_⟩:=aT q;have hiw:i<w:=by omega
  simp only[bV,dT (show(i:Int)<(en:Int) by omega),bL,cD (f:=g) hiw,oB,kI (s i hiw) hB,qG (i:=i) (by omega)];by_cases e:g i<0
  ·have j:ent g (t+1) i=some i:=by unfold ent;rw[decide_eq_true (aEd.2 e),bL]
   rw[decide_eq_true (aEd.2 e),bL,u i (by rw[he,j]),oB,j];have F:Nat.beq code 0=false:=by cases hcc:Nat.beq code 0 with|false=>rfl|true=>exact absurd (Nat.eq_of_beq_eq_true hcc) hc
   rw[F,bG]
  ·have j:ent g (t+1) i=ent g t (i+1):=by show(bif decide ((g i).num.sign<0) then _ else _)=_;rw[decide_eq_false (fun h=>e (aEd.1 h)),bG]
   rw[decide_eq_false (fun h=>e (aEd.1 h)),bG,j];exact aEa s hB hen hw u hc K t (i+1) y (by omega) (by omega) (by rw[he,j])
theorem aJz{n C en B:Nat}{Z:Nat→Nat→Rat}{c:Nat→Rat}{od:Nat→Nat}{a1 a2:Int}(V:Szx n C B Z c)(hen:en≤C)(hB:B≤100000000)(hC:C≤10000)(hn:n≤10000){K:Nat}(hK:C+1+n<K):∀(f k:Nat) (s:STb) (rs:List (List Rat)) (cr:Int) (o:Option Nat) (j:STb),f+1<k→tE n (C+1) rs od s.t→SXs n C Z c s→aC7 n C en f s=some (o,j)→∃rs' cr',tE n (C+1) rs' od j.t∧cX K (en:Int) a1 a2 (C:Int) k (mp od n) (mp s.g (C+1)) (mp (lA s.b) n) rs true cr=some (match o with|none=>.go (mp od n,mp j.g (C+1),mp (lA j.b) n,rs',cr')|some col=>.ret ((col:Int),mp od n,mp j.g (C+1),mp (lA j.b) n,rs'))
 |0,k,s,rs,cr,o,j,X,u,F,hs=>by cases hs
 |f+1,k,s,rs,cr,o,j,X,u,F,hs=>by
  obtain⟨Y,rfl,hk'⟩:=aT X;obtain⟨hT,z⟩:=V _ _ _ F.1;have b0:Nat.beq 0 0=true:=rfl;have G:Nat.beq 1 0=false:=rfl;have I:Nat.beq 1 1=true:=rfl;have J:Nat.beq 2 0=false:=rfl;have L:Nat.beq 2 1=false:=rfl;have O:Nat.beq 2 2=true:=rfl;cases h:ent s.g en 0 with
  |none=>
   simp only[aC7,h]at hs;cases hs;have e:=aEa (yF:=cW K a1 a2 (C:Int)) (od:=mp od n) (bs:=mp (lA s.b) n) (rs:=rs) (fl:=false) (cr:=cr) (code:=1) (x:=(mp od n,mp s.g (C+1),mp (lA s.b) n,rs,false,cr)) (en:=en) z (by omega) (show en≤C+1 by omega) (by omega) (fun col hc=>by rw[h]at hc;cases hc) (by decide) K en 0 K (by omega) (by omega) rfl;rw[h,Int.natCast_zero]at e;obtain⟨k'',rfl,_⟩:=aT (show f+1<Y by omega);refine⟨rs,cr,u,?_⟩;simp only[cX,bL,iF,oB,gC,e,jL,b0,bG]
  |some col=>
   obtain⟨_,e2,e3,_⟩:=aCp _ _ _ h;have lv:=aUI (b:=s.b) (a1:=a1) (a2:=a2) (a5:=mp s.g (C+1)) (col:=col) (C:=C) u hT (show col<C+1 by omega) (by omega) (by omega) (by omega) (show n<K by omega);cases y:lvs s.t s.b C col n 0 none with
   |none=>
    simp only[aC7,h,y]at hs;cases hs;have U:cW K a1 a2 (C:Int) (col:Int) (mp od n) (mp s.g (C+1)) (mp (lA s.b) n) rs false cr=some (1,(mp od n,mp s.g (C+1),mp (lA s.b) n,rs,false,(col:Int))):=by
     rw[y]at lv;simp only[cW,lv,oB,dT (show oi none<0 by decide),bL]
    have e:=aEa (yF:=cW K a1 a2 (C:Int)) (od:=mp od n) (bs:=mp (lA s.b) n) (rs:=rs) (fl:=false) (cr:=cr) (code:=1) (x:=(mp od n,mp s.g (C+1),mp (lA s.b) n,rs,false,(col:Int))) (en:=en) z (by omega) (show en≤C+1 by omega) (by omega) (fun col' hc=>by rw[h]at hc;cases hc;exact U) (by decide) K en 0 K (by omega) (by omega) rfl;rw[h,Int.natCast_zero]at e;refine⟨rs,0,u,?_⟩;simp only[cX,bL,iF,oB,gC,e,G,I,bG]
   |some r=>
    simp only[aC7,h,y]at hs;obtain⟨n1,n2,n3,_⟩:=F.next (col:=col) (by omega) y;obtain⟨q,r1,r2⟩:=aO1 (b:=s.b) (a2:=a1) (a3:=a2) (a4:=(C:Int)) u n2 (show col<C+1 by omega) hT z hB (by omega) (by omega) (show C+1+n<K by omega);have U:cW K a1 a2 (C:Int) (col:Int) (mp od n) (mp s.g (C+1)) (mp (lA s.b) n) rs false cr=some (2,(mp od n,mp (gpv s.g s.t r col) (C+1),mp (lA (gN s.b r col)) n,q,true,cr)):=by
     rw[y]at lv;have e4:oi (some r)=(r:Int):=rfl;rw[e4]at lv;simp only[cW,lv,oB,dF (show¬(r:Int)<0 by omega),bG,r2]
    have e:=aEa (yF:=cW K a1 a2 (C:Int)) (od:=mp od n) (bs:=mp (lA s.b) n) (rs:=rs) (fl:=false) (cr:=cr) (code:=2) (x:=(mp od n,mp (gpv s.g s.t r col) (C+1),mp (lA (gN s.b r col)) n,q,true,cr)) (en:=en) z (by omega) (show en≤C+1 by omega) (by omega) (fun col' hc=>by rw[h]at hc;cases hc;exact U) (by decide) K en 0 K (by omega) (by omega) rfl;rw[h,Int.natCast_zero]at e;obtain⟨rs',cr',q1,q2⟩:=aJz (a1:=a1) (a2:=a2) V hen hB hC hn hK f Y (snx s r col) q cr o j (by omega) r1 n1 hs;refine⟨rs',cr',q1,?_⟩;rw[←q2];simp only[cX,bL,iF,oB,gC,e,J,L,O,bG];rfl
theorem aQd{n C en B f:Nat}{Z:Nat→Nat→Rat}{c:Nat→Rat}{od:Nat→Nat}{a1 a2:Int}{s e:STb}{rs:List (List Rat)}{o:Option Nat}(h:Szx n C B Z c)(hen:en≤C)(hB:B≤100000000)(j:C≤10000)(k:n≤10000){K:Nat}(q:C+1+n<K)(u:f+1<K)(x:tE n (C+1) rs od s.t)(y:SXs n C Z c s)(hs:aC7 n C en f s=some (o,e)):∃rs',tE n (C+1) rs' od e.t∧jM K (en:Int) a1 a2 (C:Int) (mp od n) (mp s.g (C+1)) (mp (lA s.b) n) rs=some (oi o,mp od n,mp e.g (C+1),mp (lA e.b) n,rs'):=by
 obtain⟨rs',cr',z,F⟩:=aJz (a1:=a1) (a2:=a2) h hen hB j k q f K s rs 0 o e u x y hs;refine⟨rs',z,?_⟩;simp only[jM,F,oB];cases o with
 |none=>simp only[mW];rfl
 |some col=>rfl
theorem aMY{f:Nat→Rat}{n B:Nat}(h:∀k,k<n→Bd B (f k))(hB:B≤1073741824)(s:n≤100000)(K:Nat):∀(t i k:Nat),i+t=n→t<k→gJ K (mp f n) gE k (i:Int)=some (match fnz f t i with|none=>.go ()|some q=>.ret (q:Int))
 |0,i,k,u,e=>by
  obtain⟨j,rfl,_⟩:=aT e;simp only[gJ,aO,dF (show¬(i:Int)<(n:Int) by omega),bG,fnz]
 |t+1,i,k,u,e=>by
  obtain⟨j,rfl,_⟩:=aT e;have hin:i<n:=by omega
  have ih:=aMY h hB s K t (i+1) j (by omega) (by omega);simp only[gJ,aO,dT (show(i:Int)<(n:Int) by omega),bL,cD (f:=f) hin,oB,gE,kI (h i hin) hB,qG (i:=i) (by omega),fnz];cases((f i).num.sign != 0) with
  |true=>simp only[bL]
  |false=>simp only[bG];exact ih
theorem aSE{α:Type}{f:Nat→α}{n lo e:Nat}(k:lo≤e)(q:e≤n):slL (mp f n) (lo:Int) (e:Int)=some (mp (fun j=>f (lo+j)) (e-lo)):=by
 unfold slL;rw[if_pos ⟨by omega,by omega,by rw[aO];omega⟩];congr 1;apply List.ext_getElem?;intro j;rw[Int.toNat_natCast,Int.toNat_natCast,List.getElem?_take];by_cases h:j<e-lo
 ·rw[if_pos h,List.getElem?_drop,wJ (by omega),wJ h]
 ·rw[if_neg h,List.getElem?_eq_none (by rw[aO];omega)]
theorem aVU{α:Type}{f:Nat→α}{n k:Nat}(h:k≤n):slL (mp f n) 0 (k:Int)=some (mp f k):=by
 have e:=aSE (f:=f) (lo:=0) (Nat.zero_le k) h;rw[Int.natCast_zero,Nat.sub_zero]at e;rw[e];exact congrArg some (bW fun j _=>by rw[Nat.zero_add])
theorem aD2{n C last B:Nat}{Z:Nat→Nat→Rat}{c:Nat→Rat}{od:Nat→Nat}{a1 a2:Int}{a6:List Int}(h:a6.length=n)(u:Szx n C B Z c)(F:last≤C)(hB:B≤100000000)(G:C≤10000)(I:n≤10000){K:Nat}(x:C+1+n<K):∀(t i k:Nat) (s:STb) (rs:List (List Rat)),i+t=n→t<k→tE n (C+1) rs od s.t→SX n C Z c s.t s.g s.b→∃rs',tE n (C+1) rs' od (sdr last t i s).t∧cL K (last:Int) a1 a2 (C:Int) a6 k (mp od n) (mp s.g (C+1)) (mp (lA s.b) n) rs (i:Int)=some (mp od n,mp (sdr last t i s).g (C+1),mp (lA (sdr last t i s).b) n,rs')
 |0,i,k,s,rs,O,y,e,j=>by
  obtain⟨z,rfl,_⟩:=aT y;exact⟨rs,e,by simp only[cL,h,dF (show¬(i:Int)<(n:Int) by omega),bG,sdr]⟩
 |t+1,i,k,s,rs,O,y,e,j=>by
  obtain⟨z,rfl,_⟩:=aT y;have hin:i<n:=by omega
  obtain⟨L,U⟩:=u _ _ _ j;have V:decide (lA s.b i<(last:Int))=decide (s.b i<last):=by rw[decide_eq_decide];unfold lA;omega
  have sl:slL (mp (s.t i) (C+1)) 0 (last:Int)=some (mp (s.t i) last):=aVU (by omega);have ix:=aMY (f:=s.t i) (n:=last) (fun k y=>L i k hin (by omega)) (by omega) (by omega) K last 0 K (by omega) (by omega);rw[Int.natCast_zero]at ix;have X:n0 K (mp (s.t i) last) gE=some (oi (fnz (s.t i) last 0)):=by
   simp only[n0,ix,oB];cases fnz (s.t i) last 0 with
   |none=>simp only[oE];rfl
   |some q=>rfl
  simp only[cL,h,dT (show(i:Int)<(n:Int) by omega),bL,cD (f:=lA s.b) hin,oB,V,cD (f:=od) hin,e.row i hin,sl,X,qG (i:=i) (by omega),sdr];cases hd:decide (s.b i<last) with
  |true=>
   simp only[bL];exact aD2 h u F hB G I x t (i+1) z s rs (by omega) (by omega) e j
  |false=>
   simp only[bG];cases Y:fnz (s.t i) last 0 with
   |none=>
    simp only[dF (show¬0≤oi none by decide),bG];exact aD2 h u F hB G I x t (i+1) z s rs (by omega) (by omega) e j
   |some col=>
    obtain⟨_,f2,f3⟩:=aGX _ 0 _ Y;have e4:oi (some col)=(col:Int):=rfl;obtain⟨J,r1,r2⟩:=aO1 (b:=s.b) (a2:=a1) (a3:=a2) (a4:=(C:Int)) e hin (show col<C+1 by omega) L U hB (by omega) (by omega) x;simp only[e4,dT (show(0:Int)≤(col:Int) by omega),bL,r2,oB];exact aD2 h u F hB G I x t (i+1) z (snx s i col) J (by omega) (by omega) r1 (j.pivot hin (by omega) f3)
def fdx(b:Nat→Nat)(k:Nat):Nat→Nat→Option Nat
 |0,_=>none
 |t+1,i=>bif decide (k=b i) then some i else fdx b k t (i+1)
theorem aB9{b:Nat→Nat}{k:Nat}:∀t i r,fdx b k t i=some r→i≤r∧r<i+t∧b r=k
 |0,i,r,h=>by cases h
 |t+1,i,r,h=>by
  unfold fdx at h;by_cases e:k=b i
  ·rw[decide_eq_true e,bL]at h;cases h;exact⟨Nat.le_refl _,by omega,e.symm⟩
  ·rw[decide_eq_false e,bG]at h;obtain⟨j,q,f⟩:=aB9 t (i+1) r h;exact⟨by omega,by omega,f⟩
theorem aJR{b:Nat→Nat}{k:Nat}:∀t i,fdx b k t i=none→∀j,i≤j→j<i+t→b j≠k
 |0,i,_,j,f,q=>by omega
 |t+1,i,h,j,f,q=>by
  unfold fdx at h;by_cases e:k=b i
  ·rw[decide_eq_true e,bL]at h;cases h
  ·rw[decide_eq_false e,bG]at h;by_cases ej:j=i
   ·rw[ej];exact fun s=>e s.symm
   ·exact aJR t (i+1) h j (by omega) (by omega)
theorem aJE{b:Nat→Nat}{n q:Nat}(s:n≤100000)(K:Nat):∀(t i k:Nat),i+t=n→t<k→kD K (mp (lA b) n) (q:Int) k (i:Int)=some (match fdx b q t i with|none=>.go ()|some r=>.ret (r:Int))
 |0,i,k,u,h=>by
  obtain⟨j,rfl,_⟩:=aT h;simp only[kD,aO,dF (show¬(i:Int)<(n:Int) by omega),bG,fdx]
 |t+1,i,k,u,h=>by
  obtain⟨j,rfl,_⟩:=aT h;have hin:i<n:=by omega
  have ih:=aJE (b:=b) (q:=q) s K t (i+1) j (by omega) (by omega);simp only[kD,aO,dT (show(i:Int)<(n:Int) by omega),bL,cD (f:=lA b) hin,oB,qG (i:=i) (by omega),fdx];by_cases e:q=b i
  ·rw[qT (show(q:Int)=lA b i by unfold lA;omega),bL,decide_eq_true e,bL]
  ·rw[qF (show¬(q:Int)=lA b i by unfold lA;omega),bG,decide_eq_false e,bG];exact ih
theorem aJ6{b:Nat→Nat}{n q:Nat}(e:n≤100000){K:Nat}(f:n<K):oM K (mp (lA b) n) (q:Int)=some (oi (fdx b q n 0)):=by
 have h:=aJE (b:=b) (q:=q) e K n 0 K (by omega) f;rw[Int.natCast_zero]at h;simp only[oM,h,oB];cases fdx b q n 0 with
 |none=>simp only[rO];rfl
 |some r=>rfl
theorem aGk{n w:Nat}{Z T:Nat→Nat→Rat}{b:Nat→Nat}(h:TI n w Z T b){e k:Nat}:aDq T b n e k=match fdx b k n 0 with|none=>0|some r=>T r e:=by
 unfold aDq;cases f:fdx b k n 0 with
 |none=>exact dM fun i j=>if_neg (aJR n 0 f i (Nat.zero_le _) (by omega))
 |some r=>
  obtain⟨_,t,q⟩:=aB9 n 0 r f;have hr:r<n:=by omega
  rw[kP hr fun i j hne=>if_neg fun s=>hne (h.inj j hr (by rw[s,q])),if_pos q]
theorem aUf{n C k:Nat}{Z T:Nat→Nat→Rat}{b od:Nat→Nat}{rs:List (List Rat)}{a1 a2:Int}{a5:List Rat}(h:TI n (C+1) Z T b)(e:tE n (C+1) rs od T)(j:n≤100000){K:Nat}(q:n<K):jN K (k:Int) a1 a2 (C:Int) (mp od n) a5 (mp (lA b) n) rs=some (aDq T b n C k):=by
 rw[aGk h];simp only[jN,aJ6 j q,oB];cases s:fdx b k n 0 with
 |none=>simp only[dF (show¬0≤oi none by decide),bG]
 |some r=>
  obtain⟨_,u,x⟩:=aB9 n 0 r s;have hr:r<n:=by omega
  have t:oi (some r)=(r:Int):=rfl;simp only[t,dT (show(0:Int)≤(r:Int) by omega),bL,cD (f:=od) hr,oB,e.row r hr,cD (f:=T r) (show C<C+1 by omega)]
theorem aFQ{n w B:Nat}{Z T:Nat→Nat→Rat}{b:Nat→Nat}(h:TI n w Z T b){e k:Nat}(hB:1≤B)(f:∀i,i<n→Bd B (T i e)):Bd B (aDq T b n e k):=by
 rw[aGk h];cases j:fdx b k n 0 with
 |none=>exact Bd.zero.mono hB
 |some r=>
  obtain⟨_,q,s⟩:=aB9 n 0 r j;exact f r (by omega)
theorem aUn{n C k col B:Nat}{Z T:Nat→Nat→Rat}{b od:Nat→Nat}{rs:List (List Rat)}{a1 a2:Int}{a6:List Rat}(h:TI n (C+1) Z T b)(j:tE n (C+1) rs od T)(hc:col<C+1)(hb:∀i,i<n→b i≠col)(q:qX n (C+1) B T)(hB:B≤1073741824)(s:n≤100000){K:Nat}(t:n<K):jD K (k:Int) (col:Int) a1 a2 (C:Int) (mp od n) a6 (mp (lA b) n) rs=some (tT T b n col k):=by
 by_cases e:k=col
 ·subst e;rw[aE7 hb];simp only[jD,nI,qT (rfl:(k:Int)=k),bL,aEo,oB]
 ·rw[aAN e,aGk h];simp only[jD,nI,qF (show¬(k:Int)=(col:Int) by omega),bG,aJ6 s t,oB];cases u:fdx b k n 0 with
  |none=>
   simp only[dF (show¬0≤oi none by decide),bG,oB];rfl
  |some r=>
   obtain⟨_,y,z⟩:=aB9 n 0 r u;have hr:r<n:=by omega
   have x:oi (some r)=(r:Int):=rfl;simp only[x,dT (show(0:Int)≤(r:Int) by omega),bL,cD (f:=od) hr,oB,j.row r hr,cD (f:=T r) hc,yU (q r col hr hc) hB]
theorem aH7{n w B:Nat}{Z T:Nat→Nat→Rat}{b:Nat→Nat}(h:TI n w Z T b){col k:Nat}(hb:∀i,i<n→b i≠col)(hB:1≤B)(f:∀i,i<n→Bd B (T i col)):Bd B (tT T b n col k):=by
 by_cases e:k=col
 ·subst e;rw[aE7 hb];exact Bd.mono (m:=1) (by constructor<;>decide) hB
 ·rw[aAN e];exact(aFQ h hB f).neg
theorem aNb{n v C B:Nat}{Z T:Nat→Nat→Rat}{b od:Nat→Nat}{rs:List (List Rat)}{a1:Int}{a4:List Rat}{s:List Rat}(q:s.length=v)(h:TI n (C+1) Z T b)(z:tE n (C+1) rs od T)(F:qX n (C+1) B T)(hB1:1≤B)(hB:B≤1073741824)(hv:v≤1000)(G:n≤100000){K:Nat}(I:n<K):∀(t i k:Nat) (f:Nat→Rat),i+t=v→t<k→(∀j,j<i→f j=spt T b n v C j)→eO K (v:Int) a1 (C:Int) (mp od n) a4 (mp (lA b) n) rs s k (mp f v) (i:Int)=some (mp (spt T b n v C) v)
 |0,i,k,f,u,x,y=>by
  obtain⟨J,rfl,_⟩:=aT x;simp only[eO,q,dF (show¬(i:Int)<(v:Int) by omega),bG];exact congrArg some (bW fun j U=>y j (by omega))
 |t+1,i,k,f,u,x,y=>by
  obtain⟨J,rfl,_⟩:=aT x;have hiv:i<v:=by omega
  have V:aV ((v:Int)+(i:Int))=some ((v+i:Nat):Int):=xH (m:=0) (by omega) (by omega);have L:∀k,Bd B (aDq T b n C k):=fun k=>aFQ h hB1 fun i u=>F i C u (by omega)
  have X:aDq T b n C i-aDq T b n C (v+i)=spt T b n v C i:=rfl;have O:∀k:Nat,jN K (k:Int) (v:Int) a1 (C:Int) (mp od n) a4 (mp (lA b) n) rs=some (aDq T b n C k):=fun k=>aUf h z G I
  simp only[eO,q,dT (show(i:Int)<(v:Int) by omega),bL,O i,O (v+i),oB,V,aBF (L i) (L (v+i)) hB hB,X,cD (f:=f) hiv,vA (f:=f) hiv,qG (i:=i) (by omega)];exact aNb q h z F hB1 hB hv G I t (i+1) J (gN f i (spt T b n v C i)) (by omega) (by omega) (fun j U=>by
   by_cases e:j=i
   ·rw[e,aN]
   ·rw[aZ e];exact y j (by omega))
theorem aUe{n v C B:Nat}{Z T:Nat→Nat→Rat}{b od:Nat→Nat}{rs:List (List Rat)}{a1:Int}{a4:List Rat}(h:TI n (C+1) Z T b)(k:tE n (C+1) rs od T)(q:qX n (C+1) B T)(hB1:1≤B)(hB:B≤1073741824)(hv:v≤1000)(s:n≤100000){K:Nat}(t:n<K)(f:v<K):fJ K (v:Int) a1 (C:Int) (mp od n) a4 (mp (lA b) n) rs=some (mp (spt T b n v C) v):=by
 have e:=aNb (a1:=a1) (a4:=a4) (aO (fun _=>(0:Rat)) v) h k q hB1 hB hv s t v 0 K (fun _=>0) (by omega) f (fun j u=>by omega);rw[Int.natCast_zero]at e;simp only[fJ,aC4 (n:=v) (z:=(0:Rat)) (by omega),oB,e,mC]
theorem aMl{n v C col B:Nat}{Z T:Nat→Nat→Rat}{b od:Nat→Nat}{rs:List (List Rat)}{a1:Int}{a5:List Rat}{s:List Rat}(q:s.length=v)(h:TI n (C+1) Z T b)(F:tE n (C+1) rs od T)(hc:col<C+1)(hb:∀i,i<n→b i≠col)(u:qX n (C+1) B T)(hB1:1≤B)(hB:B≤1073741824)(hv:v≤1000)(G:n≤100000){K:Nat}(I:n<K):∀(t i k:Nat) (f:Nat→Rat),i+t=v→t<k→(∀j,j<i→f j=sry T b n v col j)→eR K (v:Int) a1 (C:Int) (col:Int) (mp od n) a5 (mp (lA b) n) rs s k (mp f v) (i:Int)=some (mp (sry T b n v col) v)
 |0,i,k,f,x,y,z=>by
  obtain⟨J,rfl,_⟩:=aT y;simp only[eR,q,dF (show¬(i:Int)<(v:Int) by omega),bG];exact congrArg some (bW fun j U=>z j (by omega))
 |t+1,i,k,f,x,y,z=>by
  obtain⟨J,rfl,_⟩:=aT y;have hiv:i<v:=by omega
  have V:aV ((v:Int)+(i:Int))=some ((v+i:Nat):Int):=xH (m:=0) (by omega) (by omega);have L:∀k,Bd B (tT T b n col k):=fun k=>aH7 h hb hB1 fun i x=>u i col x hc
  have X:tT T b n col i-tT T b n col (v+i)=sry T b n v col i:=rfl;have O:∀k:Nat,jD K (k:Int) (col:Int) (v:Int) a1 (C:Int) (mp od n) a5 (mp (lA b) n) rs=some (tT T b n col k):=fun k=>aUn h F hc hb u hB G I
  simp only[eR,q,dT (show(i:Int)<(v:Int) by omega),bL,O i,O (v+i),oB,V,aBF (L i) (L (v+i)) hB hB,X,cD (f:=f) hiv,vA (f:=f) hiv,qG (i:=i) (by omega)];exact aMl q h F hc hb u hB1 hB hv G I t (i+1) J (gN f i (sry T b n v col i)) (by omega) (by omega) (fun j U=>by
   by_cases e:j=i
   ·rw[e,aN]
   ·rw[aZ e];exact z j (by omega))
theorem aUO{n v C col B:Nat}{Z T:Nat→Nat→Rat}{b od:Nat→Nat}{rs:List (List Rat)}{a1:Int}{a5:List Rat}(h:TI n (C+1) Z T b)(k:tE n (C+1) rs od T)(hc:col<C+1)(hb:∀i,i<n→b i≠col)(q:qX n (C+1) B T)(hB1:1≤B)(hB:B≤1073741824)(hv:v≤1000)(s:n≤100000){K:Nat}(t:n<K)(f:v<K):iB K (v:Int) a1 (C:Int) (col:Int) (mp od n) a5 (mp (lA b) n) rs=some (mp (sry T b n v col) v):=by
 have e:=aMl (a1:=a1) (a5:=a5) (aO (fun _=>(0:Rat)) v) h k hc hb q hB1 hB hv s t v 0 K (fun _=>0) (by omega) f (fun j u=>by omega);rw[Int.natCast_zero]at e;simp only[iB,aC4 (n:=v) (z:=(0:Rat)) (by omega),oB,e,mH]
theorem aP8{v m C:Nat}{g:Nat→Rat}{a2:Int}{a3:List Nat}{a5:List Int}{a6:List (List Rat)}(k:2*v+m≤C+1)(hv:v≤1000)(hm:m≤1000):lL (v:Int) (m:Int) a2 a3 (mp g (C+1)) a5 a6=some (mp (aAW v g) m)∧jI (v:Int) (m:Int) a2 (mp g (C+1)) a3 a5 a6=some (mp (aAW v g) m):=by
 have e:aV (2*(v:Int))=some ((2*v:Nat):Int):=xH (m:=0) (by omega) (by omega);have f:aV (((2*v:Nat):Int)+(m:Int))=some ((2*v+m:Nat):Int):=xH (m:=0) (by omega) (by omega);have h:slL (mp g (C+1)) ((2*v:Nat):Int) ((2*v+m:Nat):Int)=some (mp (aAW v g) m):=by
  rw[aSE (show 2*v≤2*v+m by omega) k,show 2*v+m-2*v=m by omega];rfl
 have j:dR (mp (aAW v g) m)=some (mp (aAW v g) m):=by
  simp only[dR,aBx (show([]:List Rat).length+(mp (aAW v g) m).length≤68719476736 by rw[aO];show 0+m≤_;omega),oB,List.nil_append]
 constructor
 ·simp only[lL,e,f,h,j,oB]
 ·simp only[jI,e,f,h,j,oB]
theorem aGU{v m:Nat}{A:Nat→Nat→Rat}{β:Nat→Rat}{p:aW}(hp:p.vars=(v:Int))(K:Nat):∀(t i k:Nat),i+t=m→t<k→m≤1000→fW K (mp (vB v A β) m) (pZ p) k (i:Int)=some (.go ())
 |0,i,k,j,e,hm=>by
  obtain⟨h,rfl,_⟩:=aT e;simp only[fW,aO,dF (show¬(i:Int)<(m:Int) by omega),bG]
 |t+1,i,k,j,e,hm=>by
  obtain⟨h,rfl,_⟩:=aT e;have hs:(vB v A β i).a=mp (A i) v:=rfl;simp only[fW,aO,dT (show(i:Int)<(m:Int) by omega),bL,cD (f:=vB v A β) (show i<m by omega),oB,pZ,hs,hp,nF (rfl:(v:Int)=(v:Int)),bG,qG (i:=i) (by omega)];exact aGU hp K t (i+1) h (by omega) (by omega) hm
theorem aNV{v m:Nat}{A:Nat→Nat→Rat}{β γ:Nat→Rat}(hv:v≤32)(hm:m≤64){K:Nat}(e:m<K):uQ K (w9 v m A β γ)=some 0:=by
 have h:=aGU (m:=m) (A:=A) (β:=β) (p:=w9 v m A β γ) rfl K m 0 K (by omega) e (by omega);rw[Int.natCast_zero]at h;have f:(w9 v m A β γ).lines=mp (vB v A β) m:=rfl;have hvr:(w9 v m A β γ).vars=(v:Int):=rfl;have j:(w9 v m A β γ).goal=mp γ v:=rfl;simp only[uQ,f,hvr,j,aO,dF (show¬(32:Int)<(v:Int) by omega),dF (show¬(64:Int)<(m:Int) by omega),dF (show¬(v:Int)<0 by omega),nF (rfl:(v:Int)=(v:Int)),bG,n5,pL,h,nW,oB,dF (show¬(0:Int)≤-1 by omega)]
structure SPk (v m M B:Nat) (A:Nat→Nat→Rat) (β γ:Nat→Rat) (D:Rat):Prop where
 D0:D≠0
 DM:xX M D
 zA:∀i k,i<m→k<v→xX M (A i k*D)
 zβ:∀i,i<m→xX M (β i*D)
 zγ:∀k,k<v→xX M (γ k*D)
 hv:v≤8
 hm:m≤12
 hM:(64*M)^(m+1)<2^B
 hB1:1≤B
 hB:B≤1000000
section
variable {v m M B:Nat} {A:Nat→Nat→Rat} {β γ:Nat→Rat} {D:Rat}
theorem xX.sg{x:Rat}{M:Nat}(h:xX M x):xX M (-x):=by
 obtain⟨q,e,f⟩:=h;exact⟨-q,by rw[e];exact(Rat.intCast_neg q).symm,by omega⟩
theorem aRS{β:Nat→Rat}{i M:Nat}{x D:Rat}(h:xX M (x*D)):xX M (ngx β i x*D):=by
 unfold ngx;split
 ·rw[Rat.neg_mul];exact h.sg
 ·exact h
theorem SPk.zZ(h:SPk v m M B A β γ D):∀i k,i<m→k<2*v+2*m+1→xX M (mV v m A β i k*D):=fun i k e f=>by
 have z0:xX M (0*D):=by rw[Rat.zero_mul];exact xX.zero.mono (Nat.zero_le _)
 have z1:xX M (1*D):=by rw[Rat.one_mul];exact h.DM
 unfold mV;split
 ·exact aRS (h.zA i k e (by omega))
 ·split
  ·exact aRS (by rw[Rat.neg_mul];exact(h.zA i (k-v) e (by omega)).sg)
  ·split
   ·split
    ·exact aRS z1
    ·exact z0
   ·split
    ·split
     ·exact z1
     ·exact z0
    ·exact aRS (h.zβ i e)
theorem SPk.z1(h:SPk v m M B A β γ D):∀k,xX M (cs1 v m k*D):=fun k=>by
 have z0:xX M (0*D):=by rw[Rat.zero_mul];exact xX.zero.mono (Nat.zero_le _)
 have z1:xX M (1*D):=by rw[Rat.one_mul];exact h.DM
 unfold cs1;split<;>assumption
theorem SPk.z2(h:SPk v m M B A β γ D):∀k,xX M (cs2 v γ k*D):=fun k=>by
 have z0:xX M (0*D):=by rw[Rat.zero_mul];exact xX.zero.mono (Nat.zero_le _)
 unfold cs2;split
 ·rename_i e;rw[Rat.neg_mul];exact(h.zγ k e).sg
 ·split
  ·exact h.zγ _ (by omega)
  ·exact z0
theorem SPk.s1(h:SPk v m M B A β γ D):Szx m (2*v+2*m) B (mV v m A β) (cs1 v m):=fun T g b e=>
 e.bd h.D0 h.DM h.zZ (fun k _=>h.z1 k) (by have:=h.hm;omega) h.hM
theorem SPk.s2(h:SPk v m M B A β γ D):Szx m (2*v+2*m) B (mV v m A β) (cs2 v γ):=fun T g b e=>
 e.bd h.D0 h.DM h.zZ (fun k _=>h.z2 k) (by have:=h.hm;omega) h.hM
theorem SPk.bZ(h:SPk v m M B A β γ D):qX m (2*v+2*m+1) B (mV v m A β):=(h.s1 _ _ _ aQN.1).1
theorem SPk.bA(h:SPk v m M B A β γ D):qX m v B A:=fun i k e f=>by
 have:=h.bZ i k e (by omega);rw[aLr f,←aCM]at this;unfold ngx at this;split at this
 ·have:=this.neg;rwa [Rat.neg_neg]at this
 ·exact this
theorem SPk.bβ(h:SPk v m M B A β γ D):∀i,i<m→Bd B (β i):=fun i e=>by
 have:=h.bZ i (2*v+2*m) e (by omega);rw[aIT,←aCM]at this;unfold ngx at this;split at this
 ·have:=this.neg;rwa [Rat.neg_neg]at this
 ·exact this
theorem SPk.bγ(h:SPk v m M B A β γ D):∀k,k<v→Bd B (γ k):=fun k q=>by
 have s:SX 0 (2*v+2*m) (mV v m A β) (cs2 v γ) (mV v m A β) (cs2 v γ) (fun _=>0):=
  ⟨⟨⟨fun _ _=>0,fun i _ f=>by omega⟩,fun j t=>by omega,fun i _ f=>by omega⟩,fun i f=>by omega,fun x _ i f=>by omega,fun i f=>by omega,⟨fun _=>0,fun k _=>by show _=_-0;grind⟩⟩
 have hM:(64*M)^(0+1)<2^B:=by
  refine Nat.lt_of_le_of_lt ?_ h.hM;by_cases e:64*M=0
  ·rw[e];exact Nat.zero_le _
  ·exact Nat.pow_le_pow_right (by omega) (by omega)
 have hb:=(s.bd (B:=B) h.D0 h.DM (fun i _ f=>by omega) (fun k _=>h.z2 k) (by omega) hM).2 k (by omega);unfold cs2 at hb;rw[if_pos q]at hb;have:=hb.neg
 rwa [Rat.neg_neg]at this
structure aVV (v m B:Nat) (A:Nat→Nat→Rat) (β γ:Nat→Rat) (a:kT):Prop where
 is:(a.kind=1∧a.x=[]∧a.value=0∧∃Y,a.y=mp Y m∧aWl v m A β Y∧∀i,i<m→Bd B (Y i))∨
  (a.kind=2∧a.value=0∧∃X Y,a.x=mp X v∧a.y=mp Y v∧aWC v m A β γ X Y∧(∀i,i<v→Bd (2*B+1) (X i))∧∀i,i<v→Bd (2*B+1) (Y i))∨
  (a.kind=0∧∃X Y,a.x=mp X v∧a.y=mp Y m∧a.value=sm (fun k=>γ k*X k) v∧aRA v m A β γ X Y∧(∀i,i<v→Bd (2*B+1) (X i))∧∀i,i<m→Bd B (Y i))
theorem aNF(h:SPk v m M B A β γ D):∃a:kT,aVV v m B A β γ a∧∀K,(2*v+2*m)^m+1000≤K→oD K (w9 v m A β γ)=some (a,0):=by
 have hv:=h.hv;have hm:=h.hm;have hB:=h.hB;have hB1:=h.hB1;have hbA:=h.bA;have hbβ:=h.bβ;have hbγ:=h.bγ;have e1:aV (2*(v:Int))=some ((2*v:Nat):Int):=xH (m:=0) (by omega) (by omega);have e2:aV (((2*v:Nat):Int)+(m:Int))=some ((2*v+m:Nat):Int):=xH (m:=0) (by omega) (by omega);have hvr:(w9 v m A β γ).vars=(v:Int):=rfl;have hgo:(w9 v m A β γ).goal=mp γ v:=rfl;have Y:=aQN (v:=v) (m:=m) (A:=A) (β:=β);have one:Bd B (1:Rat):=Bd.mono (m:=1) (by constructor<;>decide) hB1;have bc1:∀k,Bd B (cs1 v m k):=fun k=>by unfold cs1;split;exact one;exact Bd.zero.mono hB1
 have bp:∀(c:Nat→Rat) (T:Nat→Nat→Rat) (b:Nat→Nat),TI m (2*v+2*m+1) (mV v m A β) T b→(∀i,i<m→b i<2*v+2*m)→(∀k,k<2*v+2*m+1→Bd B (c k))→qX m (2*v+2*m+1) B T→∀j,j≤m→∀k,k<2*v+2*m+1→Bd (40*B) (prc c T b j k):=fun c T b ti hb hc hT j hj k hk=>by
  refine(aPs (B0:=B) (B:=B) (fun i x=>by have:=hb i x;omega) hc hT (fun i x j hj=>by rw[aMB ti j (by omega) i x,if_neg (by omega)]) j hj k hk).mono ?_;have h1:j*(B+B+1)≤12*(3*B):=Nat.mul_le_mul (by omega) (by omega);omega
 obtain⟨o1,s1,hs1⟩:=aH2 (f:=(2*v+2*m)^m) Y (Nat.le_refl _) (Nat.le_refl _);obtain⟨I,_,hn1,hc1⟩:=aGA (P:=fun _=>True) (Nat.le_refl _) (fun _ _ _ _ _ _ _ _=>trivial) _ _ _ _ Y trivial hs1;have ho1:o1=none:=by
  cases o1 with
  |none=>rfl
  |some col=>
   obtain⟨c1,c2,c3⟩:=hc1 col rfl;exact(aOB I c1 c2 c3).elim
 subst ho1;obtain⟨bT1,bg1⟩:=h.s1 _ _ _ I.1;have hW:∀K,(2*v+2*m)^m+1000≤K→∃z,tE m (2*v+2*m+1) z id s1.t∧oD K (w9 v m A β γ)=bif(decide (s1.g (2*v+2*m)<0)) then some ((⟨1,([]:List Rat),mp (aAW v s1.g) m,0⟩:kT),0) else((l9 K ((2*v+m:Nat):Int) (v:Int) (m:Int) ((2*v+2*m:Nat):Int) (mp id m) (mp s1.g (2*v+2*m+1)) (mp (lA s1.b) m) z).bind fun F=>(iA K (nG (w9 v m A β γ)) (v:Int) (m:Int) ((2*v+2*m:Nat):Int) F.1 F.2.1 F.2.2.1 F.2.2.2).bind fun v94=>(jM K ((2*v+m:Nat):Int) (v:Int) (m:Int) ((2*v+2*m:Nat):Int) F.1 v94 F.2.2.1 F.2.2.2).bind fun q=>bif(decide (0≤q.1)) then((iB K (v:Int) (m:Int) ((2*v+2*m:Nat):Int) q.1 q.2.1 q.2.2.1 q.2.2.2.1 q.2.2.2.2).bind fun L=>(fJ K (v:Int) (m:Int) ((2*v+2*m:Nat):Int) q.2.1 q.2.2.1 q.2.2.2.1 q.2.2.2.2).bind fun v123=>some ((⟨2,v123,L,0⟩:kT),0)) else((fJ K (v:Int) (m:Int) ((2*v+2*m:Nat):Int) q.2.1 q.2.2.1 q.2.2.2.1 q.2.2.2.2).bind fun V=>(jI (v:Int) (m:Int) ((2*v+2*m:Nat):Int) q.2.2.1 q.2.1 q.2.2.2.1 q.2.2.2.2).bind fun v131=>(wC K (mp γ v) V).bind fun v133=>some ((⟨0,V,v131,v133⟩:kT),0))):=fun K X=>by
  have mk:=aQ7 (γ:=γ) hbA hbβ hB1 (by omega) (by omega) (by omega) (show v<K by omega) (show m<K by omega);have ha1:∀k:Nat,k<2*v+2*m→p9 ((2*v+m:Nat):Int) (k:Int)=some (cs1 v m k):=fun k hk=>by
   unfold p9 cs1;by_cases e:2*v+m≤k
   ·rw[dT (show((2*v+m:Nat):Int)≤(k:Int) by omega),bL,aEo,oB,if_pos ⟨e,hk⟩]
   ·rw[dF (show¬((2*v+m:Nat):Int)≤(k:Int) by omega),bG,if_neg (fun h=>e h.1)]
  have pr:=aOj (a1:=(v:Int)) (a2:=(m:Int)) (a5:=[]) (K:=K) aJl ha1 aOx (fun i x=>by have:=aFR (v:=v) (β:=β) x;omega) (h.bZ.mono (show B≤40*B by omega)) (bp _ _ _ aNe (fun i x=>aFR x) (fun k _=>bc1 k) h.bZ) (by omega) (by omega) (by omega) (by omega);obtain⟨z,r1,r2⟩:=aQd (a1:=(v:Int)) (a2:=(m:Int)) (K:=K) h.s1 (Nat.le_refl _) (by omega) (by omega) (by omega) (by omega) (by omega) aJl Y hs1;have sl:=(aP8 (v:=v) (m:=m) (C:=2*v+2*m) (g:=s1.g) (a2:=((2*v+2*m:Nat):Int)) (a3:=mp id m) (a5:=mp (lA s1.b) m) (a6:=z) (by omega) (by omega) (by omega)).1;refine⟨z,r1,?_⟩;have e0:(prc (cs1 v m) (mV v m A β) (aA0 v m β) m)=(st0 v m A β).g:=rfl;have U:aA0 v m β=(st0 v m A β).b:=rfl;rw[e0,U]at pr;rw[U]at mk;have e3:decide ((s1.g (2*v+2*m)).num.sign<0)=decide (s1.g (2*v+2*m)<0):=by rw[decide_eq_decide];exact aEd
  simp only[oD,aNV (show v≤32 by omega) (show m≤64 by omega) (show m<K by omega),oB,nF (rfl:(0:Int)=0),bG,mk,hvr,hgo,e1,e2,pr,r2,cD (f:=s1.g) (show 2*v+2*m<2*v+2*m+1 by omega),kI (bg1 (2*v+2*m) (by omega)) (show B≤1073741824 by omega),sl,e3]
 by_cases hC:s1.g (2*v+2*m)<0
 ·refine⟨⟨1,[],mp (aAW v s1.g) m,0⟩,⟨Or.inl ⟨rfl,rfl,rfl,aAW v s1.g,rfl,aRh I (hn1 rfl) hC,fun i x=>bg1 _ (by omega)⟩⟩,fun K X=>?_⟩;obtain⟨z,r1,r2⟩:=hW K X;rw[r2,decide_eq_true hC,bL]
 ·obtain⟨O,ha2⟩:=aI2 m 0 s1 (by omega) I (aQ9 I hC) (fun j hj=>by omega);have hx3:=aUz (γ:=γ) O;obtain⟨o2,u,hs4⟩:=aH2 (en:=2*v+m) (f:=(2*v+2*m)^m) hx3 (by omega) (Nat.le_refl _);obtain⟨y,ha4,hn4,hc4⟩:=aGA (P:=Art v m) (show 2*v+m≤2*v+2*m by omega) (fun s r col hx ha hr hc hp=>aPD hx ha hr hc hp) _ _ _ _ hx3 ha2 hs4;obtain⟨bT2,_⟩:=h.s1 _ _ _ O.1;obtain⟨J,bg4⟩:=h.s2 _ _ _ y.1;have bX:∀i,i<v→Bd (2*B+1) (spt u.t u.b m v (2*v+2*m) i):=fun i x=>
   ((aFQ y.1.ti hB1 fun i x=>J i _ x (by omega)).sub (aFQ y.1.ti hB1 fun i x=>J i _ x (by omega))).mono (by omega)
  have bc2:∀k,Bd B (cs2 v γ k):=fun k=>by
   unfold cs2;split
   ·exact(hbγ k (by omega)).neg
   ·split
    ·exact hbγ _ (by omega)
    ·exact Bd.zero.mono hB1
  have hV:∀K,(2*v+2*m)^m+1000≤K→∃G,tE m (2*v+2*m+1) G id u.t∧oD K (w9 v m A β γ)=bif(decide (0≤oi o2)) then((iB K (v:Int) (m:Int) ((2*v+2*m:Nat):Int) (oi o2) (mp id m) (mp u.g (2*v+2*m+1)) (mp (lA u.b) m) G).bind fun L=>some ((⟨2,mp (spt u.t u.b m v (2*v+2*m)) v,L,0⟩:kT),0)) else some ((⟨0,mp (spt u.t u.b m v (2*v+2*m)) v,mp (aAW v u.g) m,sm (fun k=>γ k*spt u.t u.b m v (2*v+2*m) k) v⟩:kT),0):=fun K X=>by
   obtain⟨z,r1,r2⟩:=hW K X;obtain⟨rs2,q1,q2⟩:=aD2 (last:=2*v+m) (a1:=(v:Int)) (a2:=(m:Int)) (a6:=mp (lA s1.b) m) (aO _ _) h.s1 (by omega) (by omega) (by omega) (by omega) (show 2*v+2*m+1+m<K by omega) m 0 K s1 z (by omega) (by omega) r1 I.1;rw[Int.natCast_zero]at q2;have ha2':∀k:Nat,k<2*v+2*m→nG (w9 v m A β γ) (k:Int)=some (cs2 v γ k):=fun k hk=>by
    unfold nG cs2;rw[hvr,hgo];by_cases e:k<v
    ·rw[dT (show(k:Int)<(v:Int) by omega),bL,cD (f:=γ) e,oB,yU (hbγ k e) (show B≤1073741824 by omega),oB,if_pos e]
    ·rw[dF (show¬(k:Int)<(v:Int) by omega),bG,e1,oB,if_neg e];by_cases e':k<2*v
     ·have ek:aV ((k:Int)-(v:Int))=some ((k-v:Nat):Int):=xH (m:=0) (by omega) (by omega);rw[dT (show(k:Int)<((2*v:Nat):Int) by omega),bL,ek,oB,cD (f:=γ) (show k-v<v by omega),oB,if_pos e']
     ·rw[dF (show¬(k:Int)<((2*v:Nat):Int) by omega),bG,if_neg e']
   have c2C:cs2 v γ (2*v+2*m)=0:=by unfold cs2;rw[if_neg (by omega),if_neg (by omega)]
   have pr:=aOj (a1:=(v:Int)) (a2:=(m:Int)) (a5:=mp (sdr (2*v+m) m 0 s1).g (2*v+2*m+1)) (K:=K) q1 ha2' c2C (fun i x=>by have:=O.1.lt i x;omega) (bT2.mono (show B≤40*B by omega)) (bp _ _ _ O.1.ti O.1.lt (fun k _=>bc2 k) bT2) (by omega) (by omega) (by omega) (by omega);obtain⟨G,u1,u2⟩:=aQd (s:=st2 v m γ (sdr (2*v+m) m 0 s1)) (a1:=(v:Int)) (a2:=(m:Int)) (K:=K) h.s2 (show 2*v+m≤2*v+2*m by omega) (by omega) (by omega) (by omega) (by omega) (by omega) q1 hx3 hs4;have e0:prc (cs2 v γ) (sdr (2*v+m) m 0 s1).t (sdr (2*v+m) m 0 s1).b m=(st2 v m γ (sdr (2*v+m) m 0 s1)).g:=rfl;have U:(st2 v m γ (sdr (2*v+m) m 0 s1)).b=(sdr (2*v+m) m 0 s1).b:=rfl;rw[e0]at pr;rw[U]at u2;have p2:=aUe (v:=v) (a1:=(m:Int)) (a4:=mp u.g (2*v+2*m+1)) (K:=K) y.1.ti u1 J hB1 (by omega) (by omega) (by omega) (by omega) (by omega);have sl:=(aP8 (v:=v) (m:=m) (C:=2*v+2*m) (g:=u.g) (a2:=((2*v+2*m:Nat):Int)) (a3:=mp id m) (a5:=mp (lA u.b) m) (a6:=G) (by omega) (by omega) (by omega)).2;have hd:v*(B+(2*B+1)+1)≤8*3000002:=Nat.mul_le_mul hv (by omega);have dt:=aEy (f:=γ) (e:=spt u.t u.b m v (2*v+2*m)) (w:=v) hbγ bX (by omega) (by omega) (show v<K by omega);refine⟨G,u1,?_⟩;rw[r2,decide_eq_false hC,bG];simp only[l9,q2,oB,lU,pr,u2,p2,sl,dt]
  cases o2 with
  |none=>
   refine⟨⟨0,mp (spt u.t u.b m v (2*v+2*m)) v,mp (aAW v u.g) m,sm (fun k=>γ k*spt u.t u.b m v (2*v+2*m) k) v⟩,⟨Or.inr (Or.inr ⟨rfl,_,_,rfl,rfl,rfl,aSe y ha4 (hn4 rfl),bX,fun i x=>bg4 _ (by omega)⟩)⟩,fun K X=>?_⟩;obtain⟨G,u1,u2⟩:=hV K X;rw[u2,dF (show¬0≤oi none by decide),bG]
  |some col=>
   obtain⟨c1,c2,c3⟩:=hc4 col rfl;have hb:∀i,i<m→u.b i≠col:=fun i x e=>by
    have:=y.1.gb i x;rw[e]at this;rw[this]at c2;exact absurd c2 Rat.lt_irrefl
   have bY:∀i,i<v→Bd (2*B+1) (sry u.t u.b m v col i):=fun i x=>
    ((aH7 y.1.ti hb hB1 fun i x=>J i _ x (by omega)).sub (aH7 y.1.ti hb hB1 fun i x=>J i _ x (by omega))).mono (by omega)
   refine⟨⟨2,mp (spt u.t u.b m v (2*v+2*m)) v,mp (sry u.t u.b m v col) v,0⟩,⟨Or.inr (Or.inl ⟨rfl,rfl,_,_,rfl,rfl,aRg y ha4 c1 c2 c3,bX,bY⟩)⟩,fun K X=>?_⟩;obtain⟨G,u1,u2⟩:=hV K X;have e4:oi (some col)=(col:Int):=rfl;have p1:=aUO (v:=v) (a1:=(m:Int)) (a5:=mp u.g (2*v+2*m+1)) (K:=K) y.1.ti u1 (show col<2*v+2*m+1 by omega) hb J hB1 (by omega) (by omega) (by omega) (by omega) (by omega);rw[u2,e4,dT (show(0:Int)≤(col:Int) by omega),bL,p1,oB]
end
/-- A refutation. -/
structure Rfd (M:Nat→Nat→Rat) (q:Nat→Rat) (n:Nat) (y:Nat→Rat):Prop where
 y0:∀i,i<n→0≤y i
 le:∀k,k<n→sm (fun i=>y i*M i k) n≤0
 lt:sm (fun i=>q i*y i) n<0
structure Fsb (M:Nat→Nat→Rat) (q:Nat→Rat) (n:Nat) (z:Nat→Rat):Prop where
 z0:∀i,i<n→0≤z i
 w0:∀i,i<n→0≤wvl M q z n i
theorem aMj{f g:Nat→Rat}:∀{n:Nat},(∀i,i<n→f i≤g i)→sm f n≤sm g n
 |0,_=>Rat.le_refl
 |n+1,h=>by
  have e:=aMj (f:=f) (g:=g) (n:=n) fun i j=>h i (by omega)
  have k:=h n (by omega);show sm f n+f n≤sm g n+g n;grind
theorem aR4{M:Nat→Nat→Rat}{q y z:Nat→Rat}{n:Nat}(h:Rfd M q n y)(j:Fsb M q n z):False:=by
 have F:0≤sm (fun i=>y i*wvl M q z n i) n:=pW fun i s=>Rat.mul_nonneg (h.y0 i s) (j.w0 i s)
 have e:sm (fun i=>y i*wvl M q z n i) n=sm (fun k=>z k*sm (fun i=>y i*M i k) n) n+sm (fun i=>q i*y i) n:=by
  have u:sm (fun k=>z k*sm (fun i=>y i*M i k) n) n=sm (fun i=>sm (fun k=>y i*(M i k*z k)) n) n:=by
   rw[wE];refine aK fun k _=>?_
   rw[←mY];exact aK fun i _=>by grind
  rw[u,←aA1];refine aK fun i _=>?_
  unfold wvl;rw[mY];grind
 have x:sm (fun k=>z k*sm (fun i=>y i*M i k) n) n≤sm (fun _=>0) n:=aMj fun k t=>by
  have:=Rat.mul_nonneg (j.z0 k t) (show 0≤-(sm (fun i=>y i*M i k) n) by have:=h.le k t;grind);grind
 rw[dM (f:=fun _=>(0:Rat)) fun _ _=>rfl]at x;have:=h.lt;grind
theorem Sol.fsb{M:Nat→Nat→Rat}{q z w:Nat→Rat}{n:Nat}(h:Sol M q n z w):Fsb M q n z:=⟨h.z0,h.wis.w0⟩
def rfA(M:Nat→Nat→Rat)(n j i:Nat):Rat:=if j<n then(if i=j then -1 else 0) else if j=n then 1 else M i (j-n-1)
def rfB(n j:Nat):Rat:=if j=n then 1 else 0
def rfG(q:Nat→Rat)(i:Nat):Rat:=-(q i)
theorem aUm:(64*4000)^12<2^220:=by decide
theorem aSO:xX 4000 ((1:Rat)*36):=⟨36,by decide+kernel,by decide⟩
theorem aT3:xX 4000 ((-1:Rat)*36):=⟨-36,by decide+kernel,by decide⟩
theorem aS3:xX 4000 ((0:Rat)*36):=⟨0,by decide+kernel,by decide⟩
theorem aVu{m:Nat}(hm:m≤11):(64*4000)^(m+1)<2^220:=Nat.lt_of_le_of_lt (Nat.pow_le_pow_right (by decide) (by omega)) aUm
theorem aUF{M:Nat→Nat→Rat}{q:Nat→Rat}{n:Nat}(f:PB6 n M q)(k:n≤5):SPk n (2*n+1) 4000 220 (rfA M n) (rfB n) (rfG q) 36:=
 ⟨by decide,⟨36,by decide+kernel,by decide⟩,fun j i h e=>by
  unfold rfA;split
  ·split;exact aT3;exact aS3
  ·split;exact aSO;exact f.1 i _ e (by omega),fun j h=>by unfold rfB;split;exact aSO;exact aS3,fun i e=>by unfold rfG;rw[Rat.neg_mul];exact(show xX 4000 (q i*36) from f.2 i e).sg,by omega,by omega,aVu (by omega),by omega,by omega⟩
theorem aTK{M:Nat→Nat→Rat}{n:Nat}{Y x:Nat→Rat}:sm (fun j=>Y j*sm (fun i=>rfA M n j i*x i) n) (2*n+1)=sm (fun j=>Y j*(-(x j))) n+Y n*sm x n+sm (fun k=>Y (n+1+k)*sm (fun i=>x i*M i k) n) n:=by
 rw[show 2*n+1=n+1+n by omega,uP];show sm _ n+Y n*sm (fun i=>rfA M n n i*x i) n+_=_;congr 1
 ·congr 1
  ·refine aK fun j e=>?_
   congr 1;rw[kP e fun i f hne=>by unfold rfA;rw[if_pos e,if_neg hne,Rat.zero_mul]];unfold rfA;rw[if_pos e,if_pos rfl];grind
  ·congr 1;refine aK fun i _=>?_
   unfold rfA;rw[if_neg (Nat.lt_irrefl n),if_pos rfl,Rat.one_mul]
 ·refine aK fun k _=>?_
  congr 1;refine aK fun i _=>?_
  unfold rfA;rw[if_neg (by omega),if_neg (by omega),show n+1+k-n-1=k by omega,Rat.mul_comm]
theorem aQH{A:Nat→Nat→Rat}{Y x γ:Nat→Rat}{v m:Nat}(h:∀k,k<v→sm (fun i=>Y i*A i k) m=γ k):sm (fun k=>γ k*x k) v=sm (fun i=>Y i*sm (fun k=>A i k*x k) v) m:=by
 have e:sm (fun k=>γ k*x k) v=sm (fun k=>sm (fun i=>Y i*(A i k*x k)) m) v:=aK fun k f=>by
  rw[←h k f,←y3];exact aK fun i _=>by grind
 rw[e,wE];exact aK fun i _=>by rw[mY]
theorem aM0{n:Nat}{Y:Nat→Rat}:sm (fun j=>Y j*rfB n j) (2*n+1)=Y n:=by
 rw[kP (p:=n) (by omega) fun j e hne=>by unfold rfB;rw[if_neg hne,Rat.mul_zero]];unfold rfB;rw[if_pos rfl,Rat.mul_one]
theorem aSa{M:Nat→Nat→Rat}{n:Nat}{x:Nat→Rat}(h:∀j,j<2*n+1→sm (fun i=>rfA M n j i*x i) n≤rfB n j):(∀i,i<n→0≤x i)∧sm x n≤1∧∀k,k<n→sm (fun i=>x i*M i k) n≤0:=by
 refine⟨fun i q=>?_,?_,fun k s=>?_⟩
 ·have f:=h i (by omega);rw[kP q fun j t hne=>by unfold rfA;rw[if_pos q,if_neg hne,Rat.zero_mul]]at f;unfold rfA rfB at f;rw[if_pos q,if_pos rfl,if_neg (by omega)]at f;grind
 ·have f:=h n (by omega);have e:sm (fun i=>rfA M n n i*x i) n=sm x n:=aK fun i _=>by unfold rfA;rw[if_neg (Nat.lt_irrefl n),if_pos rfl,Rat.one_mul]
  rw[e]at f;unfold rfB at f;rw[if_pos rfl]at f;exact f
 ·have f:=h (n+1+k) (by omega);have e:sm (fun i=>rfA M n (n+1+k) i*x i) n=sm (fun i=>x i*M i k) n:=aK fun i _=>by
   unfold rfA;rw[if_neg (by omega),if_neg (by omega),show n+1+k-n-1=k by omega,Rat.mul_comm]
  rw[e]at f;unfold rfB at f;rw[if_neg (by omega)]at f;exact f
theorem aV1{q X:Nat→Rat}{n:Nat}:sm (fun k=>rfG q k*X k) n=-(sm (fun i=>q i*X i) n):=by
 rw[←uB];exact aK fun i _=>by unfold rfG;grind
structure RAns (M:Nat→Nat→Rat) (q:Nat→Rat) (n:Nat) (r:List Rat×Int):Prop where
 is:(r.2=0∧∃X,r.1=mp X n∧Rfd M q n X∧∀i,i<n→Bd 500 (X i))∨(r.2=6∧r.1=[]∧∀y,¬Rfd M q n y)
theorem aRi{M:Nat→Nat→Rat}{q:Nat→Rat}{n:Nat}{a:kT}(h:aVV n (2*n+1) 220 (rfA M n) (rfB n) (rfG q) a):∃X Y,a.kind=0∧a.x=mp X n∧a.value=sm (fun k=>rfG q k*X k) n∧aRA n (2*n+1) (rfA M n) (rfB n) (rfG q) X Y∧∀i,i<n→Bd 441 (X i):=by
 rcases h.is with⟨_,_,_,Y,_,s,_⟩|⟨_,_,X,Y,_,_,s,_,_⟩|⟨f,X,Y,y,_,z,u,G,_⟩
 ·have f:=s.lt;rw[aM0]at f;have:=s.y0 n (by omega);grind
 ·exfalso;have F:∀i,i<n→0≤Y i:=fun i t=>by
   have f:=s.ra i (by omega);rw[kP t fun j I hne=>by unfold rfA;rw[if_pos t,if_neg hne,Rat.zero_mul]]at f;unfold rfA at f;rw[if_pos t,if_pos rfl]at f;grind
  have f:=s.ra n (by omega);have e:sm (fun i=>rfA M n n i*Y i) n=sm Y n:=aK fun i _=>by unfold rfA;rw[if_neg (Nat.lt_irrefl n),if_pos rfl,Rat.one_mul]
  rw[e]at f;have y:sm Y n=0:=Rat.le_antisymm f (pW F);have z:=aFX F y;have u:=s.up;rw[dM fun i t=>by rw[z i t,Rat.mul_zero]]at u;exact absurd u Rat.lt_irrefl
 ·exact⟨X,Y,f,y,z,u,G⟩
theorem aRC{M:Nat→Nat→Rat}{q:Nat→Rat}{n:Nat}{X Y:Nat→Rat}(h:aRA n (2*n+1) (rfA M n) (rfB n) (rfG q) X Y)(hv:sm (fun k=>rfG q k*X k) n≤0)(y:Nat→Rat):¬Rfd M q n y:=fun e=>by
 have s:=h.va;rw[aM0]at s;have t:=h.y0 n (by omega);have u:Y n=0:=by rw[s]at t ⊢;exact Rat.le_antisymm hv t
 have z:=aQH (x:=y) h.eq;rw[aTK,u,aV1]at z;have F:sm (fun j=>Y j*(-(y j))) n≤sm (fun _=>0) n:=aMj fun j G=>by
  have:=Rat.mul_nonneg (h.y0 j (by omega)) (e.y0 j G);grind
 have I:sm (fun k=>Y (n+1+k)*sm (fun i=>y i*M i k) n) n≤sm (fun _=>0) n:=aMj fun k J=>by
  have:=Rat.mul_nonneg (h.y0 (n+1+k) (by omega)) (show 0≤-(sm (fun i=>y i*M i k) n) by have:=e.le k J;grind);grind
 rw[dM (f:=fun _=>(0:Rat)) fun _ _=>rfl]at F I;have:=e.lt;grind
theorem aMb{M:Nat→Nat→Rat}{a1:List Rat}{n j:Nat}(h:a1.length=n)(y:n≤1000)(u:j<n)(K:Nat):∀(t i k:Nat) (f:Nat→Rat),i+t=n→t<k→(∀l,l<i→f l=M l j)→iC K (mx M n n) a1 (j:Int) k (mp f n) (i:Int)=some (mp (fun l=>M l j) n)
 |0,i,k,f,z,q,s=>by
  obtain⟨x,rfl,_⟩:=aT q;simp only[iC,h,dF (show¬(i:Int)<(n:Int) by omega),bG];exact congrArg some (bW fun l F=>s l (by omega))
 |t+1,i,k,f,z,q,s=>by
  obtain⟨x,rfl,_⟩:=aT q;have hin:i<n:=by omega
  simp only[iC,h,dT (show(i:Int)<(n:Int) by omega),bL,yO (g:=M) (w:=n) hin,cD (f:=M i) u,cD (f:=f) hin,vA (f:=f) hin,oB,qG (i:=i) (by omega)];exact aMb h y u K t (i+1) x (gN f i (M i j)) (by omega) (by omega) (fun l F=>by
   by_cases e:l=i
   ·rw[e,aN]
   ·rw[aZ e];exact s l (by omega))
theorem aM9{M:Nat→Nat→Rat}{a1:List Rat}{n:Nat}(h:a1.length=n)(q:n≤1000){K:Nat}(s:n<K):∀(t i k:Nat),i+t=n→t<k→fK K (mx M n n) a1 k (mp (vB n (rfA M n) (rfB n)) (n+1+i)) (i:Int)=some (mp (vB n (rfA M n) (rfB n)) (2*n+1))
 |0,i,k,x,j=>by
  obtain⟨u,rfl,_⟩:=aT j;simp only[fK,h,dF (show¬(i:Int)<(n:Int) by omega),bG];rw[show n+1+i=2*n+1 by omega]
 |t+1,i,k,x,j=>by
  obtain⟨u,rfl,_⟩:=aT j;have hin:i<n:=by omega
  have f:=aMb (M:=M) h q hin K n 0 K (fun _=>0) (by omega) s (fun l G=>by omega);rw[Int.natCast_zero]at f;have e:(⟨mp (fun l=>M l i) n,0⟩:aS)=vB n (rfA M n) (rfB n) (n+1+i):=by
   unfold vB;have y:mp (rfA M n (n+1+i)) n=mp (fun l=>M l i) n:=bW fun l _=>by unfold rfA;rw[if_neg (by omega),if_neg (by omega),show n+1+i-n-1=i by omega]
   have F:rfB n (n+1+i)=0:=by unfold rfB;rw[if_neg (by omega)]
   rw[y,F]
  have ap:tC (mp (vB n (rfA M n) (rfB n)) (n+1+i)) [vB n (rfA M n) (rfB n) (n+1+i)]=some (mp (vB n (rfA M n) (rfB n)) (n+1+(i+1))):=apM (g:=vB n (rfA M n) (rfB n)) (i:=n+1+i) (by omega);simp only[fK,h,dT (show(i:Int)<(n:Int) by omega),bL,aC4 (n:=n) (z:=(0:Rat)) (by omega),oB,f,o5,e,ap,qG (i:=i) (by omega)];exact aM9 h q s t (i+1) u (by omega) (by omega)
theorem aP1{a1:List Rat}{n:Nat}(e:a1.length=n)(j:n≤1000)(K:Nat):∀(t i k:Nat),i+t=n→t<k→iT K a1 k (mp (fun _=>(1:Rat)) i) (i:Int)=some (mp (fun _=>(1:Rat)) n)
 |0,i,k,q,f=>by
  obtain⟨h,rfl,_⟩:=aT f;have:i=n:=by omega
  subst this;simp only[iT,e,dF (show¬(i:Int)<(i:Int) by omega),bG]
 |t+1,i,k,q,f=>by
  obtain⟨h,rfl,_⟩:=aT f;have ap:tC (mp (fun _=>(1:Rat)) i) [1]=some (mp (fun _=>(1:Rat)) (i+1)):=apM (g:=fun _=>(1:Rat)) (by omega);simp only[iT,e,dT (show(i:Int)<(n:Int) by omega),bL,aEo,oB,ap,qG (i:=i) (by omega)];exact aP1 e j K t (i+1) h (by omega) (by omega)
theorem aQi{M:Nat→Nat→Rat}{q:Nat→Rat}{n B:Nat}(hq:∀i,i<n→Bd B (q i))(hB:B≤1073741824)(x:n≤1000)(K:Nat):∀(t i k:Nat) (f:Nat→Rat),i+t=n→t<k→(∀l,l<i→f l=rfG q l)→iY K (mp q n) k (mp (vB n (rfA M n) (rfB n)) i) (mp f n) (i:Int)=some (mp (vB n (rfA M n) (rfB n)) n,mp (rfG q) n)
 |0,i,k,f,y,h,j=>by
  obtain⟨s,rfl,_⟩:=aT h;have:i=n:=by omega
  subst this;simp only[iY,aO,dF (show¬(i:Int)<(i:Int) by omega),bG];rw[bW fun l u=>j l u]
 |t+1,i,k,f,y,h,j=>by
  obtain⟨s,rfl,_⟩:=aT h;have hin:i<n:=by omega
  have e:(⟨mp (gN (fun _=>(0:Rat)) i (-1)) n,0⟩:aS)=vB n (rfA M n) (rfB n) i:=by
   unfold vB;have F:mp (rfA M n i) n=mp (gN (fun _=>(0:Rat)) i (-1)) n:=bW fun l _=>by unfold rfA gN;rw[if_pos hin]
   have G:rfB n i=0:=by unfold rfB;rw[if_neg (by omega)]
   rw[F,G]
  have ap:tC (mp (vB n (rfA M n) (rfB n)) i) [vB n (rfA M n) (rfB n) i]=some (mp (vB n (rfA M n) (rfB n)) (i+1)):=apM (g:=vB n (rfA M n) (rfB n)) (by omega);simp only[iY,aO,dT (show(i:Int)<(n:Int) by omega),bL,cD (f:=q) hin,yU (hq i hin) hB,cD (f:=f) hin,vA (f:=f) hin,aC4 (n:=n) (z:=(0:Rat)) (by omega),aVg,cD (f:=fun _=>(0:Rat)) hin,vA (f:=fun _=>(0:Rat)) (v:=(-1:Rat)) hin,oB,e,ap,qG (i:=i) (by omega)];exact aQi hq hB x K t (i+1) s (gN f i (-(q i))) (by omega) (by omega) (fun l u=>by
   by_cases e:l=i
   ·rw[e,aN];rfl
   ·rw[aZ e];exact j l (by omega))
theorem aNA{M:Nat→Nat→Rat}{q:Nat→Rat}{n:Nat}(u:PB6 n M q)(F:n≤5)(h0:0<n):∃r,RAns M q n r∧∀K,(2*n+2*(2*n+1))^(2*n+1)+1000≤K→lQ K (mx M n n) (mp q n)=some r:=by
 have hM:qX n n 12 M:=fun i c j hc=>y6 (u.1 i c j hc)
 have hq:∀i,i<n→Bd 12 (q i):=fun i j=>y6 (u.2 i j)
 obtain⟨a,J,L⟩:=aNF (aUF u F);obtain⟨X,Y,k0,O,y,G,I⟩:=aRi J;have hd:n*(12+441+1)≤5*454:=Nat.mul_le_mul F (by omega);have vb:Bd 3000 a.value:=by
  rw[y];exact(aDj (f:=rfG q) (e:=X) (w:=n) (fun c hc=>(hq c hc).neg) I n (Nat.le_refl n)).mono (by omega)
 have main:∀K,(2*n+2*(2*n+1))^(2*n+1)+1000≤K→lQ K (mx M n n) (mp q n)=bif(decide (a.value.num.sign≤0)) then some ([],6) else some (a.x,0):=fun K k=>by
  have v:=z9 hM hq (by omega) (show n≤32 by omega) (show 100≤K by omega);have s:=aQi (M:=M) hq (by omega) (show n≤1000 by omega) K n 0 K (fun _=>0) (by omega) (by omega) (fun l hl=>by omega);have t:=aP1 (aO q n) (show n≤1000 by omega) K n 0 K (by omega) (by omega);have h:=aM9 (M:=M) (aO q n) (show n≤1000 by omega) (show n<K by omega) n 0 K (by omega) (by omega);rw[wD,Int.natCast_zero]at s t;rw[Int.natCast_zero,Nat.add_zero]at h;have e:(⟨mp (fun _=>(1:Rat)) n,1⟩:aS)=vB n (rfA M n) (rfB n) n:=by
   unfold vB;have U:mp (rfA M n n) n=mp (fun _=>(1:Rat)) n:=bW fun l _=>by unfold rfA;rw[if_neg (Nat.lt_irrefl n),if_pos rfl]
   have V:rfB n n=1:=by unfold rfB;rw[if_pos rfl]
   rw[U,V]
  have ap:tC (mp (vB n (rfA M n) (rfB n)) n) [vB n (rfA M n) (rfB n) n]=some (mp (vB n (rfA M n) (rfB n)) (n+1)):=apM (g:=vB n (rfA M n) (rfB n)) (by omega);have hS:oD K (⟨(n:Int),mp (vB n (rfA M n) (rfB n)) (2*n+1),mp (rfG q) n⟩:aW)=some (a,0):=L K k;simp only[lQ,v,oB,Bool.not_true,bG,aO,qF (show¬(n:Int)=0 by omega),aC4 (n:=n) (z:=(0:Rat)) (by omega),s,pR,aEo,t,pU,e,ap,h,pA,hS,nF (rfl:(0:Int)=0),nF k0,kI vb (show 3000≤1073741824 by omega)]
 by_cases hv:0<a.value
 ·refine⟨(a.x,0),⟨Or.inl ⟨rfl,X,O,?_,fun i j=>(I i j).mono (by omega)⟩⟩,fun K k=>?_⟩
  ·obtain⟨l1,l2,l3⟩:=aSa G.fe;refine⟨l1,l3,?_⟩;rw[y,aV1]at hv;grind
  ·rw[main K k,decide_eq_false (fun hle=>absurd (aDX.2 hv) (Int.not_lt.2 hle)),bG]
 ·refine⟨([],6),⟨Or.inr ⟨rfl,rfl,aRC G (by rw[←y];exact Rat.not_lt.1 hv)⟩⟩,fun K k=>?_⟩;rw[main K k,decide_eq_true (aFJ hv),bL]
theorem aKZ{M:Nat→Nat→Rat}{q:Nat→Rat}{n B most:Nat}(hM:qX n n B M)(hq:∀i,i<n→Bd B (q i))(k:Sm n B (pH M q n))(hB:B≤200000000)(s:n≤32)(hm:most≤100000){K:Nat}(x:5000≤K)(y:most<K):
  fX K (mx M n n) (mp q n) (most:Int)=some (zJ M q n most):=by
 have hng:=aIy hq (by omega) (show n≤1000 by omega) (show n<K by omega);have z:=k _ _ aLt;have s1:=aOv (q:=q) hM (by omega) (show n≤1000 by omega) (show n<K by omega) n 0 K (by omega) (by omega);have z1:mp (fun j=>((j:Nat):Int)) 0=[]:=rfl;have z2:mp (fun j:Nat=>j) 0=[]:=rfl;have F:mx (pH M q n) 0 (2*n+2)=[]:=rfl;simp only[Int.natCast_zero,z1,z2,F]at s1;have st:oI K (mx M n n) (mp q n)=some ((n:Int),mp (fun j=>j) n,mp (fun j=>((j:Nat):Int)) n,mx (pH M q n) n (2*n+2)):=by
  simp only[oI,s1,oB,oF,aO]
 have c1:aV (2*(n:Int))=some ((2*n:Nat):Int):=by rw[tI (by omega)];rfl
 by_cases hneg:ng q n 0=true
 ·have e:=aCA hneg;have hr:=aBC (T:=pH M q n) n 0 0 e (by omega);have t:=aO7 (bs:=mp (fun j=>((j:Nat):Int)) n) (aIs (T:=pH M q n)) z hB (show n≤1000 by omega) (show 2000≤K by omega) n 0 K 0 (by omega) (by omega) e;simp only[Int.natCast_zero]at t;have u:=aWD (v6:=((n:Int),mp (fun j=>j) n,mp (fun j=>((j:Nat):Int)) n,mx (pH M q n) n (2*n+2))) rfl k hB (show n≤1000 by omega) hm x (most+1) 0 K _ _ _ _ _ _ (by omega) (by omega) (by omega) aIs (aKX (M:=M) (q:=q) hr);simp only[Int.natCast_zero]at u;simp only[fX,z9 hM hq (show B≤1073741824 by omega) s (show 100≤K by omega),oB,Bool.not_true,bG,dF (show¬(most:Int)<0 by omega),st,hng.1,hneg,aSI,t,qM,c1,u,zJ,bL]
 ·have hneg':ng q n 0=false:=by cases h:ng q n 0 with|true=>exact absurd h hneg|false=>rfl
  obtain⟨G,I⟩:=aOE (M:=M) (q:=q) (n:=n) n (Nat.le_refl _);have ps:=aMh (b:=fun j=>j) (aIs (T:=pH M q n) (n:=n) (w:=2*n+2)) (show n≤1000 by omega) (show 2000≤K by omega);rw[G,I,bW (f:=fun j=>if j<n then q j else 0) (g:=q) fun i J=>if_pos J]at ps;simp only[fX,z9 hM hq (show B≤1073741824 by omega) s (show 100≤K by omega),oB,Bool.not_true,bG,dF (show¬(most:Int)<0 by omega),st,hng.1,hneg',Bool.not_false,bL,ps,zJ]
def rsB(M:Nat→Nat→Rat)(n:Nat)(y:Nat→Rat):Nat→Nat→Bool
 |0,_=>true
 |t+1,k=>bif decide (0<(sm (fun i=>y i*M i k) n).num.sign) then false else rsB M n y t (k+1)
def rfb(M:Nat→Nat→Rat)(q:Nat→Rat)(n:Nat)(y:Nat→Rat):Bool:=bif ng y n 0 then false else bif rsB M n y n 0 then decide ((sm (fun i=>q i*y i) n).num.sign<0) else false
theorem aJ2{M:Nat→Nat→Rat}{n:Nat}{y:Nat→Rat}:∀t k,(∀j,k≤j→j<k+t→sm (fun i=>y i*M i j) n≤0)→rsB M n y t k=true
 |0,_,_=>rfl
 |t+1,k,h=>by
  unfold rsB;rw[decide_eq_false (fun hp=>absurd (aDX.1 hp) (Rat.not_lt.2 (h k (Nat.le_refl _) (by omega)))),bG];exact aJ2 t (k+1) fun j e f=>h j (by omega) (by omega)
theorem aQh{M:Nat→Nat→Rat}{q:Nat→Rat}{n:Nat}{y:Nat→Rat}(h:Rfd M q n y):rfb M q n y=true:=by
 unfold rfb;rw[aLm h.y0,bG,aJ2 n 0 fun j _ e=>h.le j (by omega),bL,decide_eq_true (aEd.2 h.lt)]
theorem aO6{M:Nat→Nat→Rat}{y:Nat→Rat}{a1:List Rat}{n j B:Nat}(s:a1.length=n)(hM:qX n n B M)(q:∀i,i<n→Bd B (y i))(F:n≤8)(hB:B≤10000)(h:j<n)(K:Nat):∀(t i k:Nat),i+t=n→t<k→hU K (mx M n n) a1 (mp y n) (j:Int) k (sm (fun i=>y i*M i j) i) (i:Int)=some (sm (fun i=>y i*M i j) n)
 |0,i,k,u,x=>by
  obtain⟨z,rfl,_⟩:=aT x;have:i=n:=by omega
  subst this;simp only[hU,s,dF (show¬(i:Int)<(i:Int) by omega),bG]
 |t+1,i,k,u,x=>by
  obtain⟨z,rfl,_⟩:=aT x;have hin:i<n:=by omega
  have sb:=aDj (f:=y) (e:=fun i=>M i j) (w:=n) q (fun i u=>hM i j u h) i (by omega);have G:i*(B+B+1)≤8*20001:=Nat.mul_le_mul (by omega) (by omega);have e:sm (fun i=>y i*M i j) i+y i*M i j=sm (fun i=>y i*M i j) (i+1):=rfl;simp only[hU,s,dT (show(i:Int)<(n:Int) by omega),bL,cD (f:=y) hin,yO (g:=M) (w:=n) hin,cD (f:=M i) h,oB,yX (q i hin) (hM i j hin h) (by omega) (by omega),aBL sb ((q i hin).mul (hM i j hin h)) (by omega) (by omega),e,qG (i:=i) (by omega)];exact aO6 s hM q F hB h K t (i+1) z (by omega) (by omega)
theorem aOg{M:Nat→Nat→Rat}{y:Nat→Rat}{a1:List Rat}{n B:Nat}(q:a1.length=n)(hM:qX n n B M)(s:∀i,i<n→Bd B (y i))(u:n≤8)(hB:B≤10000){K:Nat}(F:n<K):∀(t j k:Nat),j+t=n→t<k→fI K (mx M n n) a1 (mp y n) k (j:Int)=some (bif rsB M n y t j then .go () else .ret false)
 |0,j,k,I,x=>by
  obtain⟨G,rfl,_⟩:=aT x;simp only[fI,q,dF (show¬(j:Int)<(n:Int) by omega),bG,rsB,bL]
 |t+1,j,k,I,x=>by
  obtain⟨G,rfl,_⟩:=aT x;have hjn:j<n:=by omega
  have h:=aO6 q hM s u hB hjn K n 0 K (by omega) F;have z:sm (fun i=>y i*M i j) 0=0:=rfl;rw[z,Int.natCast_zero]at h;have sb:=aDj (f:=y) (e:=fun i=>M i j) (w:=n) s (fun i J=>hM i j J hjn) n (Nat.le_refl _);have L:n*(B+B+1)≤8*20001:=Nat.mul_le_mul u (by omega);have ih:=aOg q hM s u hB F t (j+1) G (by omega) (by omega);simp only[fI,q,dT (show(j:Int)<(n:Int) by omega),bL,h,oB,oZ,kI sb (by omega),qG (i:=j) (by omega),rsB];cases decide (0<(sm (fun i=>y i*M i j) n).num.sign) with
  |true=>simp only[bL,bG]
  |false=>simp only[bG];exact ih
theorem aQJ{M:Nat→Nat→Rat}{y:Nat→Rat}{a1:List Rat}{n j B:Nat}(s:a1.length=n)(hM:qX n n B M)(q:∀i,i<n→Bd B (y i))(F:n≤8)(hB:B≤10000)(h:j<n)(K:Nat):∀(t i k:Nat),i+t=n→t<k→lK K (mx M n n) a1 (mp y n) (j:Int) k (sm (fun i=>y i*M i j) i) (i:Int)=some (sm (fun i=>y i*M i j) n)
 |0,i,k,u,x=>by
  obtain⟨z,rfl,_⟩:=aT x;have:i=n:=by omega
  subst this;simp only[lK,s,dF (show¬(i:Int)<(i:Int) by omega),bG]
 |t+1,i,k,u,x=>by
  obtain⟨z,rfl,_⟩:=aT x;have hin:i<n:=by omega
  have sb:=aDj (f:=y) (e:=fun i=>M i j) (w:=n) q (fun i u=>hM i j u h) i (by omega);have G:i*(B+B+1)≤8*20001:=Nat.mul_le_mul (by omega) (by omega);have e:sm (fun i=>y i*M i j) i+y i*M i j=sm (fun i=>y i*M i j) (i+1):=rfl;simp only[lK,s,dT (show(i:Int)<(n:Int) by omega),bL,cD (f:=y) hin,yO (g:=M) (w:=n) hin,cD (f:=M i) h,oB,yX (q i hin) (hM i j hin h) (by omega) (by omega),aBL sb ((q i hin).mul (hM i j hin h)) (by omega) (by omega),e,qG (i:=i) (by omega)];exact aQJ s hM q F hB h K t (i+1) z (by omega) (by omega)
theorem aPA{M:Nat→Nat→Rat}{y:Nat→Rat}{a1:List Rat}{n B:Nat}(q:a1.length=n)(hM:qX n n B M)(s:∀i,i<n→Bd B (y i))(u:n≤8)(hB:B≤10000){K:Nat}(F:n<K):∀(t j k:Nat),j+t=n→t<k→lJ K (mx M n n) a1 (mp y n) k (j:Int)=some (bif rsB M n y t j then .go () else .ret false)
 |0,j,k,I,x=>by
  obtain⟨G,rfl,_⟩:=aT x;simp only[lJ,q,dF (show¬(j:Int)<(n:Int) by omega),bG,rsB,bL]
 |t+1,j,k,I,x=>by
  obtain⟨G,rfl,_⟩:=aT x;have hjn:j<n:=by omega
  have h:=aQJ q hM s u hB hjn K n 0 K (by omega) F;have z:sm (fun i=>y i*M i j) 0=0:=rfl;rw[z,Int.natCast_zero]at h;have sb:=aDj (f:=y) (e:=fun i=>M i j) (w:=n) s (fun i J=>hM i j J hjn) n (Nat.le_refl _);have L:n*(B+B+1)≤8*20001:=Nat.mul_le_mul u (by omega);have ih:=aPA q hM s u hB F t (j+1) G (by omega) (by omega);simp only[lJ,q,dT (show(j:Int)<(n:Int) by omega),bL,h,oB,wF,kI sb (by omega),qG (i:=j) (by omega),rsB];cases decide (0<(sm (fun i=>y i*M i j) n).num.sign) with
  |true=>simp only[bL,bG]
  |false=>simp only[bG];exact ih
theorem aKT{M:Nat→Nat→Rat}{q y:Nat→Rat}{n B:Nat}(hM:qX n n B M)(hq:∀i,i<n→Bd B (q i))(h:∀i,i<n→Bd B (y i))(j:n≤8)(hB:B≤10000){K:Nat}(k:100≤K):mU K (mx M n n) (mp q n) (mp y n)=some (rfb M q n y)∧yG K (mx M n n) (mp q n) (mp y n)=some (rfb M q n y):=by
 have v1:=z9 hM hq (by omega) (show n≤32 by omega) k;have v2:=aK1 hM hq (by omega) (show n≤32 by omega) k;have g1:=aEj (yT h) (by omega) (show(mp y n).length≤1000 by rw[aO];omega) (show(mp y n).length<K by rw[aO];omega);have u:=aFl (yT h) (by omega) (show(mp y n).length≤1000 by rw[aO];omega) (show(mp y n).length<K by rw[aO];omega);have ngy:=aIy h (by omega) (show n≤1000 by omega) (show n<K by omega);have s:=aOg (aO q n) hM h j hB (show n<K by omega) n 0 K (by omega) (by omega);have t:=aPA (aO q n) hM h j hB (show n<K by omega) n 0 K (by omega) (by omega);rw[Int.natCast_zero]at s t;have x:n*(B+B+1)≤8*20001:=Nat.mul_le_mul j (by omega);have d1:=aEy (f:=q) (e:=y) (w:=n) hq h (by omega) (by omega) (show n<K by omega);have d2:=(aOh (f:=q) (e:=y) (w:=n) hq h (by omega) (by omega) (show n<K by omega)).2;have sb:=aDj (f:=q) (e:=y) (w:=n) hq h n (Nat.le_refl _);unfold rfb;constructor
 ·simp only[mU,v1,oB,Bool.not_true,bG,aO,nF (rfl:(n:Int)=(n:Int)),g1,ngy.1];cases ng y n 0 with
  |true=>simp only[bL]
  |false=>
   simp only[bG,s,oB];cases rsB M n y n 0 with
   |true=>simp only[bL,oX,d1,oB,kI sb (show 1+n*(B+B+1)≤1073741824 by omega)]
   |false=>simp only[bG]
 ·simp only[yG,v2,oB,Bool.not_true,bG,aO,nF (rfl:(n:Int)=(n:Int)),u,ngy.2];cases ng y n 0 with
  |true=>simp only[bL]
  |false=>
   simp only[bG,t,oB];cases rsB M n y n 0 with
   |true=>simp only[bL,wH,d2,oB,kI sb (show 1+n*(B+B+1)≤1073741824 by omega)]
   |false=>simp only[bG]
theorem aKH{M:Nat→Nat→Rat}{q:Nat→Rat}{n:Nat}(e:PB6 n M q)(h:n≤6){m:Nat}(j:m≤800){K:Nat}(k:6000≤K):fX K (mx M n n) (mp q n) (m:Int)=some (aCX M q n m):=by
 have hM:qX n n 200 M:=fun i c f hc=>(y6 (e.1 i c f hc)).mono (by omega)
 have hq:∀i,i<n→Bd 200 (q i):=fun i f=>(y6 (e.2 i f)).mono (by omega)
 unfold aCX;rw[if_neg (by omega)];exact aKZ (most:=m) hM hq (aL6 e h) (by omega) (by omega) (by omega) (by omega) (by omega)
theorem aS9{M:Nat→Nat→Rat}{n i B:Nat}(hM:qX n n B M)(hB:B≤1073741824)(x:n≤1000)(j:i<n)(K:Nat):∀(t k f:Nat),k+t=i→t<f→∃o,d9 K (mx M n n) (i:Int) f (k:Int)=some o∧(o=.go ()∨o=.ret false)
 |0,k,f,y,q=>by
  obtain⟨s,rfl,_⟩:=aT q;exact⟨.go (),by simp only[d9,dF (show¬(k:Int)<(i:Int) by omega),bG],.inl rfl⟩
 |t+1,k,f,y,q=>by
  obtain⟨s,rfl,_⟩:=aT q;have h:k<n:=by omega
  obtain⟨o,z,F⟩:=aS9 hM hB x j K t (k+1) s (by omega) (by omega);have e:d9 K (mx M n n) (i:Int) (s+1) (k:Int)=bif !(decide (M i k=M k i)) then some (.ret false) else some o:=by
   simp only[d9,dT (show(k:Int)<(i:Int) by omega),bL,yO (g:=M) (w:=n) j,yO (g:=M) (w:=n) h,cD (f:=M i) h,cD (f:=M k) j,oB,aCe (hM i k j h) (hM k i h j) hB hB,qG (i:=k) (by omega),z]
  cases u:decide (M i k=M k i) with
  |true=>exact⟨o,by rw[e,u,Bool.not_true,bG],F⟩
  |false=>exact⟨.ret false,by rw[e,u,Bool.not_false,bL],.inr rfl⟩
theorem aTo{M:Nat→Nat→Rat}{n B:Nat}(hM:qX n n B M)(hB:B≤1073741824)(k:n≤1000){K:Nat}(s:n<K):∀(t i f:Nat),i+t=n→t<f→∃o:LR Bool Unit,dI K (mx M n n) f (i:Int)=some o
 |0,i,f,u,e=>by
  obtain⟨q,rfl,_⟩:=aT e;exact⟨.go (),by simp only[dI,iE,dF (show¬(i:Int)<(n:Int) by omega),bG]⟩
 |t+1,i,f,u,e=>by
  obtain⟨q,rfl,_⟩:=aT e;obtain⟨o,j,x⟩:=aS9 hM hB k (show i<n by omega) K i 0 K (by omega) (by omega);obtain⟨y,h⟩:=aTo hM hB k s t (i+1) q (by omega) (by omega);rw[Int.natCast_zero]at j;rcases x with rfl|rfl
  ·exact⟨y,by simp only[dI,iE,dT (show(i:Int)<(n:Int) by omega),bL,j,oB,nB,qG (i:=i) (by omega),h]⟩
  ·exact⟨.ret false,by simp only[dI,iE,dT (show(i:Int)<(n:Int) by omega),bL,j,oB]⟩
theorem aT0{M:Nat→Nat→Rat}{n B:Nat}(hM:qX n n B M)(hB:B≤1073741824)(f:n≤1000){K:Nat}(e:n<K):∃b,kQ K (mx M n n)=some b:=by
 obtain⟨o,h⟩:=aTo hM hB f e n 0 K (by omega) e;rw[Int.natCast_zero]at h;cases o with
 |go u=>exact⟨true,by simp only[kQ,h,oB,nU]⟩
 |ret b=>exact⟨b,by simp only[kQ,h,oB]⟩
theorem aNy{a:Int}{m:List Int}(e:aAB (a::0::m)):∃n:Nat,n≤5∧∀K,100≤K→gA K (a::0::m) 5=some (mx (mvn (a::0::m)) n n,mp (vw (a::0::m)) n):=by
 obtain⟨v,v1,v2,q⟩:=aFw e 0 (m:=6) (by omega);obtain⟨n,rfl⟩:∃n:Nat,v=n:=⟨v.toNat,by omega⟩;have h:cE (a::0::m) 1 5=some 0:=by
  have hlen:(((a::0::m).length:Nat):Int)=(m.length:Int)+2:=by simp;omega
  have hr:bR (a::0::m) 1=some 0:=rfl;have j:kZ 0 5=some 0:=rfl;simp only[cE,dF (show¬(1:Int)<0 by omega),bG,hlen,dF (show¬(m.length:Int)+2≤1 by omega),hr,oB,j]
 have k:aV ((5:Int)+1)=some 6:=rfl;refine⟨n,by omega,fun K s=>?_⟩;have f:=aLw e (n:=n) (by omega) (K:=K) (by omega) n 0 K (by omega) (by omega);have z:mx (mvn (a::0::m)) 0 n=[]:=rfl;simp only[Int.natCast_zero,wD,z]at f;simp only[gA,k,oB,v1,h,f,cU,qT (rfl:(0:Int)=0),bL]
def sqM(g:Nat→Nat→Rat)(n i k:Nat):Rat:=xE g (tr g) n i k
theorem aPP{g:Nat→Nat→Rat}{n i k:Nat}:sqM g n i k=sm (fun c=>g i c*g k c) n:=by
 unfold sqM xE yP tr;exact aK fun c _=>Rat.mul_comm _ _
theorem aKF{g:Nat→Nat→Rat}{n:Nat}(z x:Nat→Rat):sm (fun i=>z i*sm (fun j=>sqM g n i j*x j) n) n=sm (fun c=>sm (fun i=>z i*g i c) n*sm (fun j=>g j c*x j) n) n:=by
 have e:∀i,i<n→z i*sm (fun j=>sqM g n i j*x j) n=sm (fun c=>(z i*g i c)*sm (fun j=>g j c*x j) n) n:=fun i k=>by
  have f:sm (fun j=>sqM g n i j*x j) n=sm (fun c=>g i c*sm (fun j=>g j c*x j) n) n:=by
   have h:sm (fun j=>sqM g n i j*x j) n=sm (fun j=>sm (fun c=>g i c*(g j c*x j)) n) n:=aK fun j _=>by
    rw[aPP,←y3];exact aK fun c _=>by grind
   rw[h,wE];exact aK fun c _=>by rw[mY]
  rw[f,←mY];exact aK fun c _=>by grind
 rw[aK e,wE];exact aK fun c _=>by rw[y3]
theorem aRv{g:Nat→Nat→Rat}{q:Nat→Rat}{n:Nat}(h:∀y,¬Rfd (sqM g n) q n y):PSG (sqM g n) q n:=by
 have sq:∀z:Nat→Rat,sm (fun i=>z i*sm (fun j=>sqM g n i j*z j) n) n=sm (fun c=>sm (fun i=>z i*g i c) n*sm (fun i=>z i*g i c) n) n:=fun z=>by
  rw[aKF];refine aK fun c _=>?_
  congr 1;exact aK fun i _=>Rat.mul_comm _ _
 refine⟨fun z=>by rw[sq];exact pW fun c _=>aCQ _,fun z f x=>?_,fun z z0 f=>?_⟩
 ·rw[sq]at f;have s:=aSu f;rw[aKF];exact dM fun c hc=>by rw[s c hc,Rat.zero_mul]
 ·refine Rat.not_lt.1 fun hlt=>h z ⟨fun i _=>z0 i,fun k t=>?_,?_⟩
  ·have s:=f fun j=>if j=k then 1 else 0
   have e:sm (fun i=>z i*sm (fun j=>sqM g n i j*(if j=k then 1 else 0)) n) n=sm (fun i=>z i*sqM g n i k) n:=aK fun i _=>by
    rw[kP t fun j _ hne=>by rw[if_neg hne,Rat.mul_zero],if_pos rfl,Rat.mul_one]
   rw[e]at s;rw[s];exact Rat.le_refl
  ·have e:sm (fun i=>q i*z i) n=sm (fun i=>z i*q i) n:=aK fun i _=>Rat.mul_comm _ _
   rw[e];exact hlt
theorem aTG{M:Nat→Nat→Rat}{q:Nat→Rat}{n:Nat}(hs:∀i c,i<n→c<n→M i c=M c i)(hp:aFC M n):PSG M q n:=by
 refine⟨fun z=>aQF hs hp z,fun z e x=>?_,fun z z0 e=>?_⟩
 ·have f:=aEb hs hp e;exact dM fun i h=>by rw[f i h,Rat.zero_mul]
 ·have f:=aEb hs hp (e z);rw[dM fun i h=>by rw[f i h,Rat.zero_mul]];exact Rat.le_refl
theorem aJk{M:Nat→Nat→Rat}{q:Nat→Rat}{n:Nat}(j:n≤5):(aCX M q n 800).2=0∨(aCX M q n 800).2=15:=by
 have k:3^n≤3^5:=Nat.pow_le_pow_right (by decide) j;have e:aCX M q n 800=zJ M q n 800:=by unfold aCX;rw[if_neg (by omega)];rfl
 rw[e];by_cases f:(zJ M q n 800).2=0
 ·exact .inl f
 ·rcases(aHF f).2 with h|h
  ·exact .inr h
  ·exact absurd h (aNZ (by omega))
theorem aKz{M:Nat→Nat→Rat}{q:Nat→Rat}{n:Nat}(f:n≤5)(j:PSG M q n):(aCX M q n 800).2=0:=by
 have e:aCX M q n 800=zJ M q n 800:=by unfold aCX;rw[if_neg (by omega)];rfl
 rcases aJk (M:=M) (q:=q) f with h|h
 ·exact h
 ·rw[e]at h;exact absurd h (aKg j)
theorem aTN{M:Nat→Nat→Rat}{q:Nat→Rat}{n:Nat}{a1:List Int}(hP:PB6 n M q)(hn:n≤5)(h1:aAB a1)(hl:a1.length≤1048576):∃K0,∀K,K0≤K→bK K a1 (mx M n n,mp q n)=some true:=by
 have u:aAB ((n:Int)::0::a1):=fun x t=>by
  rcases List.mem_cons.1 t with rfl|t
  ·omega
  ·rcases List.mem_cons.1 t with rfl|t
   ·omega
   ·exact h1 x t
 obtain⟨e,j,y⟩:=aNy u;have ap:tC [(n:Int),0] a1=some ((n:Int)::0::a1):=aBx (by show 2+a1.length≤_;omega);by_cases e1:e=n
 ·subst e1;by_cases e0:e=0
  ·refine⟨6000,fun K L=>?_⟩;simp only[bK,aO,ap,oB,y K (by omega),iE,nF (rfl:(e:Int)=(e:Int)),bG,qT (show(e:Int)=0 by omega),bL,aDp (K:=K) (by omega)]
  generalize hg:mvn ((e:Int)::0::a1)=g at *;have gdn:∀i c,dn 6 1 24 (g i c):=fun i c=>by rw[←hg];exact aGf u i c
  have gb:qX e e 12 g:=fun i c _ _=>y6 (aJZ (gdn i c) (by omega))
  have gb':qX e e 12 (tr g):=fun i c s hc=>gb c i hc s
  have f:PB6 e (sqM g e) q:=⟨fun i k s hk=>by
   rw[aPP];exact(aQb (M:=576) e fun c _=>(gdn i c).mul (gdn k c)).mono (by omega),hP.2⟩
  obtain⟨r,hr,O⟩:=aNA f j (by omega);generalize hP1:(2*e+2*(2*e+1))^(2*e+1)=P1 at O;refine⟨P1+6000,fun K L=>?_⟩;have hc:Cok e e:=aEk _;have t1:=aRu (g:=g) hc (show e≤64 by omega) (show e≤64 by omega) (K:=K) (by omega);have hB:e*(12+12+1)≤5*25:=Nat.mul_le_mul j (by omega);have t2:=aRG gb gb' hc hc (by omega) (show e≤64 by omega) (show e≤64 by omega) (show e≤64 by omega) (K:=K) (by omega);have F:vY K (mx g e e) (mx (tr g) e e)=some (mx (sqM g e) e e,0):=t2;have U:=aKH (m:=800) f (show e≤6 by omega) (by omega) (show 6000≤K by omega);have e8:((800:Nat):Int)=800:=rfl;rw[e8]at U;have r1:=O K (by omega);have hM:qX e e 1000 (sqM g e):=fun i c s hc=>(y6 (f.1 i c s hc)).mono (by omega)
  have hq:∀i,i<e→Bd 1000 (q i):=fun i s=>(y6 (f.2 i s)).mono (by omega)
  have V:=aDp (K:=K) (by omega);simp only[bK,aO,ap,oB,y K (by omega),iE,nF (rfl:(e:Int)=(e:Int)),bG,qF (show¬(e:Int)=0 by omega),t1,F,nF (rfl:(0:Int)=0),U,r1];rcases aJk (M:=sqM g e) (q:=q) j with Y|G
  ·have r6:r.2=6:=by
    rcases aNi f (show e≤6 by omega) 800 with⟨h,_⟩|⟨_,z,w,_,_,hs,_⟩
    ·exact absurd Y h
    ·rcases hr.is with⟨_,X,_,I,_⟩|⟨h,_,_⟩
     ·exact(aR4 I hs.fsb).elim
     ·exact h
   simp only[qF (show¬(aCX (sqM g e) q e 800).2=15 by omega),bG,qT Y,bL,qT r6,V,oB]
  ·have t:∃X,r.2=0∧r.1=mp X e∧Rfd (sqM g e) q e X∧∀i,i<e→Bd 500 (X i):=by
    rcases hr.is with⟨h,X,h2,I,hb⟩|⟨_,_,h⟩
    ·exact⟨X,h,h2,I,hb⟩
    ·have:=aKz j (aRv h);omega
   obtain⟨X,x1,x2,x3,x4⟩:=t;have J:=(aKT (K:=K) hM hq (fun i s=>(x4 i s).mono (by omega)) (by omega) (by omega) (by omega)).1;simp only[qT G,bL,qT x1,x2,J,aQh x3,oB,V]
 ·refine⟨6000,fun K L=>?_⟩;simp only[bK,aO,ap,oB,y K (by omega),iE,nT (show(e:Int)≠(n:Int) by omega),bL,aDp (K:=K) (by omega)]
theorem aBp{F a1:List Int}(O:aAB F)(U:aAB a1)(V:a1.length≤1048576):∃K,kK K F a1=some true:=by
 obtain⟨n,M,q,u,j,X⟩:=aLz O (most:=5) (by omega) (by omega);obtain⟨f,Y⟩:=aTN j u U V;refine⟨f+6000,?_⟩;have k:=X (f+6000) (by omega);have s5:((5:Nat):Int)=5:=rfl;rw[s5]at k;have e:=Y (f+6000) (by omega);have hM:qX n n 12 M:=fun i c s hc=>y6 (j.1 i c s hc)
 have hq:∀i,i<n→Bd 12 (q i):=fun i s=>y6 (j.2 i s)
 have G:=aKH (m:=800) j (show n≤6 by omega) (by omega) (show 6000≤f+6000 by omega);have e8:((800:Nat):Int)=800:=rfl;rw[e8]at G;simp only[kK,k,oB,G,aO];by_cases hn0:0<n
 ·obtain⟨b,hb⟩:=aT0 hM (by omega) (show n≤1000 by omega) (show n<f+6000 by omega);simp only[dT (show(0:Int)<(n:Int) by omega),bL,hb,oB];cases b with
  |false=>simp only[bG,e]
  |true=>
   have h5:5^n*12≤5^5*12:=Nat.mul_le_mul_right 12 (Nat.pow_le_pow_right (by decide) u);obtain⟨o,o1,o2⟩:=aKb hM (by omega) (by omega) (show n≤64 by omega) (K:=f+6000) (by omega);simp only[bL,o1,oB];cases o with
   |false=>simp only[bG,e]
   |true=>
    obtain⟨I,J⟩:=o2.1 rfl;have hs:∀i c,i<n→c<n→M i c=M c i:=fun i c s hc=>by
     by_cases x:c<i
     ·exact I i s c x
     ·by_cases y:i<c
      ·exact(I c hc i y).symm
      ·rw[show i=c by omega]
    have t:=aKz u (aTG (q:=q) hs J);rcases aNi j (show n≤6 by omega) 800 with⟨h,_⟩|⟨_,z,w,z1,_,hsol,zb,_⟩
    ·exact absurd t h
    have L:=aPO (K:=f+6000) hM hq (show n≤6 by omega) (by omega) (by omega) (by omega);rw[aQp u hs J hsol]at L;have x:((([mp z n]:List (List Rat)).length:Nat):Int)=1:=rfl;have y:bR [mp z n] 0=some (mp z n):=rfl;have iO:=aUc (K:=f+6000) (yT zb) (by omega) (by rw[aO];omega) (by rw[aO];omega);simp only[bL,L,oB,nF t,bG,nF (rfl:(0:Int)=0),x,nF (rfl:(1:Int)=1),y,z1,iO,Bool.not_true,e]
 ·simp only[dF (show¬(0:Int)<(n:Int) by omega),bG,e]
end Go.Proofs.YtolfcbpgmfbgmaaGreat
