/- Texts of the proof, part 7: SE SF SG SH WV WX WW VD. -/
import Derived.Test.YtolfcbpgmfbgmaaGreatZ6
set_option linter.unusedSimpArgs false
set_option linter.unusedVariables false
namespace Go.Proofs.YtolfcbpgmfbgmaaGreat
theorem aIy{I:Nat}{a3:List (List Rat)}{f g:Nat→Rat}{φ:Rat}{w B:Nat}(s:a3.getD I []=mp f w)(y:∀k,k<w→Bd B (f k))(z:∀k,k<w→Bd B (g k))(hφ:Bd B φ)(hB:B≤200000000)(hw:w≤100000)(K:Nat):∀(t i k:Nat) (h:Nat→Rat),i+t=w→t<k→(∀j,j<i→h j=g j-φ*f j)→(∀j,i≤j→h j=g j)→iS K I a3 φ k (mp h w) (i:Int)=some (mp (fun j=>g j-φ*f j) w)
 |0,i,k,h,J,F,u,q=>by
  obtain⟨G,rfl,_⟩:=aT F;simp only[iS,s,aO,dF (show¬(i:Int)<(w:Int) by omega),bG];rw[bV fun j x=>u j (by omega)]
 |t+1,i,k,h,J,F,u,q=>by
  obtain⟨G,rfl,_⟩:=aT F;have hiw:i<w:=by omega
  have bf:=y i hiw;have bg:=z i hiw;simp only[iS,s,aO,dT (show(i:Int)<(w:Int) by omega),bL,cC (f:=f) hiw,oB,kN bf (by omega),qG (i:=i) (by omega)];by_cases e:f i=0
  ·rw[nF (zF.2 e),bG];exact aIy s y z hφ hB hw K t (i+1) G h (by omega) (by omega) (fun j x=>by
    by_cases ej:j=i
    ·rw[ej,q i (Nat.le_refl _),e];grind
    ·exact u j (by omega)) (fun j x=>q j (by omega))
  ·rw[nT (fun h=>e (zF.1 h)),bL];simp only[cC (f:=h) hiw,q i (Nat.le_refl _),oB,yX hφ bf (by omega) (by omega),aBD bg (hφ.mul bf) (by omega) (by omega),vA (f:=h) hiw];exact aIy s y z hφ hB hw K t (i+1) G _ (by omega) (by omega) (fun j x=>by
    by_cases ej:j=i
    ·rw[ej,aN]
    ·rw[aZ ej];exact u j (by omega)) (fun j x=>by rw[aZ (by omega)];exact q j (by omega))
theorem aO9{t:Nat}{a3:List (List Rat)}{f g:Nat→Rat}{col w B:Nat}(u:a3.getD t []=mp f w)(x:∀k,k<w→Bd B (f k))(s:∀k,k<w→Bd B (g k))(hc:col<w)(hB:B≤200000000)(hw:w≤100000){K:Nat}(y:w<K):qB K t (col:Int) (mp g w) a3=some (mp (fun j=>g j-g col*f j) w):=by
 have q:=aIy u x s (s col hc) hB hw K w 0 K g (by omega) y (fun j z=>by omega) (fun j _=>rfl);rw[Int.natCast_zero]at q;simp only[qB,cC (f:=g) hc,oB,kN (s col hc) (by omega)];by_cases e:g col=0
 ·rw[qT (zF.2 e),bL,bV (f:=g) (g:=fun j=>g j-g col*f j) fun j _=>by rw[e];grind]
 ·rw[qF (fun h=>e (zF.1 h)),bG,q,oB,rV]
theorem aGq{rs:List (List Rat)}{o:Nat}{r:List Rat}(f:o<rs.length)(h:rs.getD o []=r):rs.set o r=rs:=by
 apply List.ext_getElem?;intro j;rw[List.getElem?_set];by_cases e:o=j
 ·subst e;rw[if_pos rfl,if_pos f,List.getElem?_eq_getElem f];rw[List.getD_eq_getElem?_getD,List.getElem?_eq_getElem f]at h;exact congrArg some h.symm
 ·rw[if_neg e]
theorem aIO{q a1:Nat}{a3:List (List Rat)}{f g:Nat→Rat}{φ:Rat}{w B:Nat}(hne:a1≠q)(x:a3.getD a1 []=mp f w)(I:∀k,k<w→Bd B (f k))(J:∀k,k<w→Bd B (g k))(hφ:Bd B φ)(hB:B≤200000000)(hw:w≤100000)(K:Nat):∀(t i k:Nat) (rs:List (List Rat)) (h:Nat→Rat),i+t=w→t<k→q<rs.length→rs.getD a1 []=mp f w→rs.getD q []=mp h w→(∀j,j<i→h j=g j-φ*f j)→(∀j,i≤j→h j=g j)→iL K q a1 a3 φ k rs (i:Int)=some (rs.set q (mp (fun j=>g j-φ*f j) w))
 |0,i,k,rs,h,U,L,s,y,z,F,u=>by
  obtain⟨O,rfl,_⟩:=aT L;simp only[iL,x,aO,dF (show¬(i:Int)<(w:Int) by omega),bG];rw[aGq s (by rw[z];exact bV fun j G=>F j (by omega))]
 |t+1,i,k,rs,h,U,L,s,y,z,F,u=>by
  obtain⟨O,rfl,_⟩:=aT L;have hiw:i<w:=by omega
  have bf:=I i hiw;have bg:=J i hiw;simp only[iL,x,aO,dT (show(i:Int)<(w:Int) by omega),bL,y,cC (f:=f) hiw,oB,kN bf (by omega),qG (i:=i) (by omega)];by_cases e:f i=0
  ·rw[nF (zF.2 e),bG];exact aIO hne x I J hφ hB hw K t (i+1) O rs h (by omega) (by omega) s y z (fun j G=>by
    by_cases ej:j=i
    ·rw[ej,u i (Nat.le_refl _),e];grind
    ·exact F j (by omega)) (fun j G=>u j (by omega))
  ·rw[nT (fun h=>e (zF.1 h)),bL];simp only[z,cC (f:=h) hiw,u i (Nat.le_refl _),oB,yX hφ bf (by omega) (by omega),aBD bg (hφ.mul bf) (by omega) (by omega),vA (f:=h) hiw];rw[aIO hne x I J hφ hB hw K t (i+1) O (rs.set q (mp (gN h i (g i-φ*f i)) w)) (gN h i (g i-φ*f i)) (by omega) (by omega) (by rw[List.length_set];exact s) (by rw[aBi s,if_neg hne];exact y) (by rw[aBi s,if_pos rfl]) (fun j G=>by
    by_cases ej:j=i
    ·rw[ej,aN]
    ·rw[aZ ej];exact F j (by omega)) (fun j G=>by rw[aZ (by omega)];exact u j (by omega)),List.set_set]
theorem aTW{q a1:Nat}{a3:List (List Rat)}{f g:Nat→Rat}{col w B:Nat}(hne:a1≠q)(x:a3.getD a1 []=mp f w)(t:a3.getD q []=mp g w)(y:q<a3.length)(z:∀k,k<w→Bd B (f k))(u:∀k,k<w→Bd B (g k))(hc:col<w)(hB:B≤200000000)(hw:w≤100000){K:Nat}(F:w<K):sZ K q a1 (col:Int) a3=some (a3.set q (mp (fun j=>g j-g col*f j) w)):=by
 have s:=aIO hne x z u (u col hc) hB hw K w 0 K a3 g (by omega) F y x t (fun j G=>by omega) (fun j _=>rfl);rw[Int.natCast_zero]at s;simp only[sZ,t,cC (f:=g) hc,oB,kN (u col hc) (by omega)];by_cases e:g col=0
 ·rw[qT (zF.2 e),bL,aGq y (by rw[t];exact bV fun j _=>by rw[e];grind)]
 ·rw[qF (fun h=>e (zF.1 h)),bG,s,oB,rP]
def kW(b:Nat→Nat)(i:Nat):Int:=((b i:Nat):Int)
theorem aQQ{b:Nat→Nat}{r col:Nat}:gN (kW b) r ((col:Nat):Int)=kW (gN b r col):=by
 funext i;unfold kW gN;split<;>rfl
theorem aM0{n w r col B:Nat}{od:Nat→Nat}{T:Nat→Nat→Rat}{G:List (List Rat)}(s:tE n w G od T)(hr:r<n)(hc:col<w)(u:qX n w B T)(hB:B≤200000000)(hw:w≤100000)(K:Nat):∀(t i k:Nat) (rs:List (List Rat)) (h:Nat→Rat),i+t=w→t<k→od r<rs.length→rs.getD (od r) []=mp h w→(∀j,j<i→h j=y7 T r col j)→(∀j,i≤j→h j=T r j)→eR K (r:Int) (mp od n) G (T r col) (od r) k rs (i:Int)=some (rs.set (od r) (mp (y7 T r col) w))
 |0,i,k,rs,h,L,x,q,y,z,F=>by
  obtain⟨I,rfl,_⟩:=aT x;simp only[eR,s.row r hr,aO,dF (show¬(i:Int)<(w:Int) by omega),bG];rw[aGq q (by rw[y];exact bV fun j J=>z j (by omega))]
 |t+1,i,k,rs,h,L,x,q,y,z,F=>by
  obtain⟨I,rfl,_⟩:=aT x;have hiw:i<w:=by omega
  have O:=u r i hr hiw;have b2:=u r col hr hc;have e:T r i/T r col=y7 T r col i:=rfl;simp only[eR,s.row r hr,aO,dT (show(i:Int)<(w:Int) by omega),bL,y,cC (f:=h) hiw,F i (Nat.le_refl _),oB,cC (f:=od) hr,aBw O b2 (by omega) (by omega),vA (f:=h) hiw,qG (i:=i) (by omega),e];rw[aM0 s hr hc u hB hw K t (i+1) I (rs.set (od r) (mp (gN h i (y7 T r col i)) w)) (gN h i (y7 T r col i)) (by omega) (by omega) (by rw[List.length_set];exact q) (by rw[aBi q,if_pos rfl]) (fun j J=>by
    by_cases ej:j=i
    ·rw[ej,aN]
    ·rw[aZ ej];exact z j (by omega)) (fun j J=>by rw[aZ (by omega)];exact F j (by omega)),List.set_set]
def ptb(T:Nat→Nat→Rat)(r col i j:Nat):Nat→Rat:=if j=r then y7 T r col else if j<i then qC T r col j else T j
theorem aIS{n w r col B:Nat}{od:Nat→Nat}{T:Nat→Nat→Rat}(hr:r<n)(hc:col<w)(x:qX n w B T)(hB:B≤100000000)(hw:w≤100000)(I:n≤100000){K:Nat}(y:w<K):∀(t i k:Nat) (rs:List (List Rat)),i+t=n→t<k→tE n w rs od (ptb T r col i)→∃rs',tE n w rs' od (qC T r col)∧cR K (r:Int) (col:Int) (mp od n) k (mp od n) rs (i:Int)=some (mp od n,rs')
 |0,i,k,rs,O,s,q=>by
  obtain⟨z,rfl,_⟩:=aT s;refine⟨rs,q.congr fun j k J _=>?_,by simp only[cR,aO,dF (show¬(i:Int)<(n:Int) by omega),bG]⟩;unfold ptb;by_cases e:j=r
  ·rw[if_pos e,e];unfold qC y7;rw[if_pos rfl]
  ·rw[if_neg e,if_pos (by omega)]
 |t+1,i,k,rs,O,s,q=>by
  obtain⟨z,rfl,_⟩:=aT s;have hin:i<n:=by omega
  by_cases e:i=r
  ·obtain⟨rs',F,G⟩:=aIS hr hc x hB hw I y t (i+1) z rs (by omega) (by omega) (q.congr fun j k J _=>by
    unfold ptb;by_cases h:j=r
    ·rw[if_pos h,if_pos h]
    ·rw[if_neg h,if_neg h];by_cases u:j<i
     ·rw[if_pos u,if_pos (by omega)]
     ·rw[if_neg u,if_neg (by omega)])
   exact⟨rs',F,by simp only[cR,aO,dT (show(i:Int)<(n:Int) by omega),bL,cC (f:=od) hin,oB,nF (show(i:Int)=(r:Int) by omega),bG,qG (i:=i) (by omega),G]⟩
  ·have hne:od r≠od i:=fun h=>e (q.inj r i hr hin h).symm
   have U:rs.getD (od r) []=mp (y7 T r col) w:=by rw[q.row r hr];unfold ptb;rw[if_pos rfl]
   have V:rs.getD (od i) []=mp (T i) w:=by rw[q.row i hin];unfold ptb;rw[if_neg e,if_neg (Nat.lt_irrefl i)]
   have X:=aTW (col:=col) (B:=B+B) (K:=K) hne U V (q.lt i hin) (fun k s=>aIA x hr hc s) (fun k s=>(x i k hin s).mono (by omega)) hc (by omega) hw y;obtain⟨rs',F,G⟩:=aIS hr hc x hB hw I y t (i+1) z (rs.set (od i) (mp (fun j=>T i j-T i col*y7 T r col j) w)) (by omega) (by omega) ((q.set hin (fun j=>T i j-T i col*y7 T r col j)).congr fun j k J _=>by
    by_cases h:j=i
    ·rw[h,aN];unfold ptb;rw[if_neg e,if_pos (by omega)];unfold qC y7;rw[if_neg e]
    ·rw[aZ h];unfold ptb;by_cases u:j=r
     ·rw[if_pos u,if_pos u]
     ·rw[if_neg u,if_neg u];by_cases L:j<i
      ·rw[if_pos L,if_pos (by omega)]
      ·rw[if_neg L,if_neg (by omega)])
   exact⟨rs',F,by simp only[cR,aO,dT (show(i:Int)<(n:Int) by omega),bL,cC (f:=od) hin,cC (f:=od) hr,oB,nT (show(i:Int)≠(r:Int) by omega),X,qG (i:=i) (by omega),G]⟩
theorem aPL{n w r col B:Nat}{od:Nat→Nat}{T:Nat→Nat→Rat}{g:Nat→Rat}{b:Nat→Nat}{rs:List (List Rat)}{a2 a3 a4:Int}(h:tE n w rs od T)(hr:r<n)(hc:col<w)(s:qX n w B T)(y:∀k,k<w→Bd B (g k))(hB:B≤100000000)(hw:w≤100000)(z:n≤100000){K:Nat}(J:w+n<K):∃rs',tE n w rs' od (qC T r col)∧jW K (r:Int) (col:Int) a2 a3 a4 (mp od n) (mp g w) (mp (kW b) n) rs=some (mp od n,mp (gpv g T r col) w,mp (kW (gN b r col)) n,rs'):=by
 have q:=aM0 h hr hc s (by omega) hw K w 0 K rs (T r) (by omega) (by omega) (h.lt r hr) (h.row r hr) (fun j F=>by omega) (fun j _=>rfl);rw[Int.natCast_zero]at q;obtain⟨rs',u,x⟩:=aIS (od:=od) hr hc s hB hw z (show w<K by omega) n 0 K (rs.set (od r) (mp (y7 T r col) w)) (by omega) (by omega) ((h.set hr (y7 T r col)).congr fun j k F _=>by
  unfold ptb;by_cases e:j=r
  ·rw[e,aN,if_pos rfl]
  ·rw[aZ e,if_neg e,if_neg (by omega)])
 rw[Int.natCast_zero]at x;have G:rs'.getD (od r) []=mp (y7 T r col) w:=by rw[u.row r hr];exact bV fun k _=>by unfold qC y7;rw[if_pos rfl]
 have I:=aO9 (col:=col) (B:=B+B) (K:=K) G (fun k t=>aIA s hr hc t) (fun k t=>(y k t).mono (by omega)) hc (by omega) hw (by omega);refine⟨rs',u,?_⟩;simp only[jW,cC (f:=od) hr,oB,h.row r hr,cC (f:=T r) hc,q,mG,x,mE,I,cC (f:=kW b) hr,vA (f:=kW b) hr,aQQ];rfl
theorem aMK{C:Nat}{x:Int→Option Rat}{c:Nat→Rat}(y:∀k:Nat,k<C→x (k:Int)=some (c k))(F:C≤100000)(K:Nat):∀(t i k:Nat) (h:Nat→Rat),i+t=C→t<k→(∀j,j<i→h j=c j)→h C=c C→eV K x (C:Int) k (mp h (C+1)) (i:Int)=some (mp c (C+1))
 |0,i,k,h,G,q,s,u=>by
  obtain⟨z,rfl,_⟩:=aT q;simp only[eV,dF (show¬(i:Int)<(C:Int) by omega),bG];refine congrArg some (bV fun j I=>?_);by_cases e:j=C
  ·rw[e];exact u
  ·exact s j (by omega)
 |t+1,i,k,h,G,q,s,u=>by
  obtain⟨z,rfl,_⟩:=aT q;have hiw:i<C+1:=by omega
  simp only[eV,dT (show(i:Int)<(C:Int) by omega),bL,y i (by omega),oB,cC (f:=h) hiw,vA (f:=h) hiw,qG (i:=i) (by omega)];exact aMK y F K t (i+1) z _ (by omega) (by omega) (fun j I=>by
    by_cases ej:j=i
    ·rw[ej,aN]
    ·rw[aZ ej];exact s j (by omega)) (by rw[aZ (by omega)];exact u)
theorem aMu{n w B:Nat}{od b:Nat→Nat}{T:Nat→Nat→Rat}{c:Nat→Rat}{rs:List (List Rat)}(q:tE n w rs od T)(hb:∀i,i<n→b i<w)(s:qX n w B T)(hp:∀m,m≤n→∀k,k<w→Bd B (prc c T b m k))(hB:B≤200000000)(hw:w≤100000)(z:n≤100000){K:Nat}(u:w<K):∀(t i k:Nat),i+t=n→t<k→eS K (mp od n) (mp (kW b) n) rs k (mp (prc c T b i) w) (i:Int)=some (mp (prc c T b n) w)
 |0,i,k,F,h=>by
  obtain⟨x,rfl,_⟩:=aT h;have:i=n:=by omega
  subst this;simp only[eS,aO,dF (show¬(i:Int)<(i:Int) by omega),bG]
 |t+1,i,k,F,h=>by
  obtain⟨x,rfl,_⟩:=aT h;have hin:i<n:=by omega
  have y:=aO9 (col:=b i) (B:=B) (K:=K) (q.row i hin) (fun k h=>s i k hin h) (fun k h=>hp i (by omega) k h) (hb i hin) hB hw u;have e:(fun j=>prc c T b i j-prc c T b i (b i)*T i j)=prc c T b (i+1):=rfl;rw[e]at y;have G:kW b i=((b i:Nat):Int):=rfl;simp only[eS,aO,dT (show(i:Int)<(n:Int) by omega),bL,cC (f:=kW b) hin,cC (f:=od) hin,oB,G,y,qG (i:=i) (by omega)];exact aMu q hb s hp hB hw z u t (i+1) x (by omega) (by omega)
theorem aQU{n C B:Nat}{od b:Nat→Nat}{T:Nat→Nat→Rat}{c:Nat→Rat}{rs:List (List Rat)}{q:Int→Option Rat}{a1 a2:Int}{a5:List Rat}(s:tE n (C+1) rs od T)(t:∀k:Nat,k<C→q (k:Int)=some (c k))(h:c C=0)(hb:∀i,i<n→b i<C+1)(u:qX n (C+1) B T)(hp:∀m,m≤n→∀k,k<C+1→Bd B (prc c T b m k))(hB:B≤200000000)(y:C≤10000)(x:n≤100000){K:Nat}(F:C+1+n<K):iA K q a1 a2 (C:Int) (mp od n) a5 (mp (kW b) n) rs=some (mp (prc c T b n) (C+1)):=by
 have f:=aMK t (by omega) K C 0 K (fun _=>0) (by omega) (by omega) (fun j G=>by omega) h.symm;have e:=aMu s hb u hp hB (by omega) x (show C+1<K by omega) n 0 K (by omega) (by omega);have z:prc c T b 0=c:=rfl;rw[z]at e;rw[Int.natCast_zero]at f e;simp only[iA,qG (i:=C) (by omega),oB,aC9 (n:=C+1) (z:=(0:Rat)) (by omega),f,mC,e,mD]
def oi(s:Option Nat):Int:=match s with|none=>-1|some q=>(q:Int)
theorem aEG{n w C col B:Nat}{od b:Nat→Nat}{T:Nat→Nat→Rat}{rs:List (List Rat)}(z:tE n w rs od T)(j:qX n w B T)(hc:col<w)(u:C<w)(hB:B≤200000000)(G:n≤100000)(K:Nat):∀(t i k:Nat) (s:Option Nat) (q:Rat),i+t=n→t<k→(∀r,s=some r→r<n∧q=rto T C col r)→bT K (col:Int) (C:Int) (mp od n) (mp (kW b) n) rs k q (oi s) (i:Int)=some (oi (lvs T b C col t i s))
 |0,i,k,s,q,Y,O,hs=>by
  obtain⟨F,rfl,_⟩:=aT O;simp only[bT,aO,dF (show¬(i:Int)<(n:Int) by omega),bG,lvs]
 |t+1,i,k,s,q,Y,O,hs=>by
  obtain⟨F,rfl,_⟩:=aT O;have hin:i<n:=by omega
  have U:=j i col hin hc;have b2:=j i C hin u;simp only[bT,aO,dT (show(i:Int)<(n:Int) by omega),bL,cC (f:=od) hin,oB,z.row i hin,cC (f:=T i) hc,cC (f:=T i) u,kN U (by omega),aBw b2 U (by omega) (by omega),qG (i:=i) (by omega),lvs];by_cases e:0<T i col
  ·rw[decide_eq_false (fun hle=>absurd (aD2.2 e) (Int.not_lt.2 hle)),bG,bG];cases s with
   |none=>
    have ih:=aEG (b:=b) z j hc u hB G K t (i+1) F (some i) (T i C/T i col) (by omega) (by omega) (fun r hr=>by cases hr;exact⟨hin,rfl⟩);have I:(oi none)=-1:=rfl;simp only[I,dF (show¬(0:Int)≤-1 by omega),bG,fL,dT (show(-1:Int)<0 by omega),bL,qG (i:=i) (by omega),oB];exact ih
   |some r=>
    obtain⟨J,V⟩:=hs r rfl;have I:(oi (some r))=(r:Int):=rfl;have b3:Bd (B+B) q:=by rw[V];exact(j r C J u).div (j r col J hc)
    have x:=aEG (b:=b) z j hc u hB G K t (i+1) F (some i) (T i C/T i col) (by omega) (by omega) (fun r hr=>by cases hr;exact⟨hin,rfl⟩);have y:=aEG (b:=b) z j hc u hB G K t (i+1) F (some r) q (by omega) (by omega) (fun r hr=>by cases hr;exact⟨J,V⟩);have ei:(oi (some i))=(i:Int):=rfl;rw[ei]at x;rw[I]at y;simp only[I,dT (show(0:Int)≤(r:Int) by omega),bL,aMg (b2.div U) b3 (by omega) (by omega),oB,fL,aFj.2,qG (i:=i) (by omega),cC (f:=kW b) hin,cC (f:=kW b) J];unfold bet;rw[show rto T C col r=q from V.symm,show rto T C col i=T i C/T i col from rfl];by_cases X:T i C/T i col<q
    ·rw[decide_eq_true X,bL,bL,bL];exact x
    ·rw[decide_eq_false X,bG,bG];by_cases L:T i C/T i col=q
     ·rw[qT (aFj.1.2 L),bL,decide_eq_true L,bL];have e3:decide (kW b i<kW b r)=decide (b i<b r):=by
       rw[decide_eq_decide];unfold kW;omega
      rw[e3];cases decide (b i<b r) with
      |true=>rw[bL,bL];exact x
      |false=>rw[bG,bG];exact y
     ·rw[qF (fun h=>L (aFj.1.1 h)),bG,decide_eq_false L,bG,bG];exact y
  ·rw[decide_eq_true (aFN e),bL,bL];exact aEG z j hc u hB G K t (i+1) F s q (by omega) (by omega) hs
theorem aTU{n w C col B:Nat}{od b:Nat→Nat}{T:Nat→Nat→Rat}{rs:List (List Rat)}{a1 a2:Int}{a5:List Rat}(f:tE n w rs od T)(h:qX n w B T)(hc:col<w)(j:C<w)(hB:B≤200000000)(k:n≤100000){K:Nat}(q:n<K):kZ K (col:Int) a1 a2 (C:Int) (mp od n) a5 (mp (kW b) n) rs=some (oi (lvs T b C col n 0 none)):=by
 have e:=aEG (b:=b) f h hc j hB k K n 0 K none 0 (by omega) q (fun r hr=>by cases hr);have s:(oi none)=-1:=rfl;rw[s,Int.natCast_zero]at e;simp only[kZ,e,oB,lF]
def vE(v:Nat)(A:Nat→Nat→Rat)(β:Nat→Rat)(i:Nat):aS:=⟨mp (A i) v,β i⟩
def xB(v m:Nat)(A:Nat→Nat→Rat)(β γ:Nat→Rat):aW:=⟨v,mp (vE v A β) m,mp γ v⟩
theorem aEz{f:Nat→Rat}{w k B:Nat}{d:Bool}{x:Rat}(e:k<w)(h:Bd B x)(hB:B≤1073741824):lE d (mp f w) (k:Int) x=some (mp (gN f k (if d=true then -x else x)) w):=by
 cases d with
 |true=>simp only[lE,bL,yY h hB,oB,cC (f:=f) e,vA (f:=f) e,if_true]
 |false=>simp only[lE,bG,cC (f:=f) e,vA (f:=f) e,oB,Bool.false_eq_true,if_false]
theorem aL9{β:Nat→Rat}{i:Nat}{x:Rat}:(if decide ((β i).num.sign<0)=true then -x else x)=ngx β i x:=by
 unfold ngx;by_cases e:β i<0
 ·rw[if_pos e,decide_eq_true (aEE.2 e),if_pos rfl]
 ·rw[if_neg e,decide_eq_false (fun h=>e (aEE.1 h)),if_neg (by decide)]
def mrw(v:Nat)(A:Nat→Nat→Rat)(β:Nat→Rat)(i t k:Nat):Rat:=if k<t then ngx β i (A i k) else if v≤k∧k<v+t then ngx β i (-(A i (k-v))) else 0
theorem aPu{v:Nat}{A:Nat→Nat→Rat}{β:Nat→Rat}{i t:Nat}(q:t<v):gN (gN (mrw v A β i t) t (ngx β i (A i t))) (v+t) (ngx β i (-(A i t)))=mrw v A β i (t+1):=by
 funext k;by_cases e:k=v+t
 ·rw[e,aN];unfold mrw;rw[if_neg (by omega),if_pos (by omega),show v+t-v=t by omega]
 ·rw[aZ e];by_cases f:k=t
  ·rw[f,aN];unfold mrw;rw[if_pos (by omega)]
  ·rw[aZ f];unfold mrw;by_cases h:k<t
   ·rw[if_pos h,if_pos (by omega)]
   ·rw[if_neg h,if_neg (show¬k<t+1 by omega)];by_cases j:v≤k∧k<v+t
    ·rw[if_pos j,if_pos (by omega)]
    ·rw[if_neg j,if_neg (by omega)]
theorem aJ9{v w B:Nat}{p:aW}{A:Nat→Nat→Rat}{β:Nat→Rat}{i:Nat}(hp:p.vars=(v:Int))(e:∀k,k<v→Bd B (A i k))(hB:B≤1073741824)(hv:v≤1000)(hw:2*v≤w)(K:Nat):∀(t k f:Nat),k+t=v→t<f→jL K p (vE v A β i) (β i).num.sign f (mp (mrw v A β i k) w) (k:Int)=some (mp (mrw v A β i v) w)
 |0,k,f,q,h=>by
  obtain⟨j,rfl,_⟩:=aT h;have:k=v:=by omega
  subst this;simp only[jL,vE,aO,dF (show¬(k:Int)<(k:Int) by omega),bG]
 |t+1,k,f,q,h=>by
  obtain⟨j,rfl,_⟩:=aT h;have hkv:k<v:=by omega
  have s:aV ((v:Int)+(k:Int))=some ((v+k:Nat):Int):=xH (m:=0) (by omega) (by omega);have ih:=aJ9 (β:=β) hp e hB hv hw K t (k+1) j (by omega) (by omega);have hs:(vE v A β i).a=mp (A i) v:=rfl;simp only[jL,hs,aO,dT (show(k:Int)<(v:Int) by omega),bL,cC (f:=A i) hkv,oB,aEz (w:=w) (k:=k) (show k<w by omega) (e k hkv) hB,hp,s,yY (e k hkv) hB,aEz (w:=w) (k:=v+k) (show v+k<w by omega) (e k hkv).neg hB,aL9,aPu hkv,qG (i:=k) (by omega)];exact ih
theorem aO7{v m:Nat}{A:Nat→Nat→Rat}{β:Nat→Rat}{i k:Nat}(u:i<m)(x:k<2*v+2*m+1):(if β i<0 then gN (gN (gN (mrw v A β i v) (2*v+i) (ngx β i 1)) (2*v+2*m) (ngx β i (β i))) (2*v+m+i) 1 else gN (gN (mrw v A β i v) (2*v+i) (ngx β i 1)) (2*v+2*m) (ngx β i (β i))) k=mU v m A β i k:=by
 have key:gN (gN (mrw v A β i v) (2*v+i) (ngx β i 1)) (2*v+2*m) (ngx β i (β i)) k=if k=2*v+2*m then ngx β i (β i) else if k=2*v+i then ngx β i 1 else mrw v A β i v k:=by
  by_cases e:k=2*v+2*m
  ·rw[if_pos e,e,aN]
  ·rw[aZ e,if_neg e];by_cases f:k=2*v+i
   ·rw[if_pos f,f,aN]
   ·rw[aZ f,if_neg f]
 have base:k≠2*v+m+i∨¬β i<0→(if k=2*v+2*m then ngx β i (β i) else if k=2*v+i then ngx β i 1 else mrw v A β i v k)=mU v m A β i k:=fun hne=>by
  unfold mU mrw;by_cases j:k<v
  ·rw[if_neg (by omega),if_neg (by omega),if_pos j,if_pos j]
  ·rw[if_neg j,if_neg j];by_cases f:k<2*v
   ·rw[if_neg (by omega),if_neg (by omega),if_pos (by omega),if_pos f]
   ·rw[if_neg f,if_neg (show¬(v≤k∧k<v+v) by omega)];by_cases s:k<2*v+m
    ·rw[if_pos s,if_neg (by omega)]
    ·rw[if_neg s];by_cases t:k<2*v+2*m
     ·rw[if_pos t,if_neg (by omega),if_neg (by omega),if_neg (fun h=>hne.elim (fun q=>q h.1) fun q=>q h.2)]
     ·rw[if_neg t,if_pos (by omega)]
 by_cases e:β i<0
 ·rw[if_pos e];by_cases f:k=2*v+m+i
  ·rw[f,aN,show 2*v+m+i=v+v+m+i by omega,aIv u,if_pos ⟨rfl,e⟩]
  ·rw[aZ f,key];exact base (.inl f)
 ·rw[if_neg e,key];exact base (.inr e)
theorem aNf{v m B:Nat}{A:Nat→Nat→Rat}{β γ:Nat→Rat}(s:qX m v B A)(hβ:∀i,i<m→Bd B (β i))(hB1:1≤B)(hB:B≤1073741824)(hv:v≤1000)(hm:m≤1000){K:Nat}(u:v<K):∀(t i k:Nat),i+t=m→t<k→gA K (xB v m A β γ) ((2*v+2*m:Nat):Int) k (mp (kW (aAX v m β)) i) (mp id i) (mx (mU v m A β) i (2*v+2*m+1)) (i:Int)=some (mp (kW (aAX v m β)) m,mp id m,mx (mU v m A β) m (2*v+2*m+1))
 |0,i,k,y,j=>by
  obtain⟨x,rfl,_⟩:=aT j;have:i=m:=by omega
  subst this;simp only[gA,xB,aO,dF (show¬(i:Int)<(i:Int) by omega),bG]
 |t+1,i,k,y,j=>by
  obtain⟨x,rfl,_⟩:=aT j;have him:i<m:=by omega
  have q:=aJ9 (p:=xB v m A β γ) (w:=2*v+2*m+1) (β:=β) (i:=i) rfl (fun k j=>s i k him j) hB hv (by omega) K v 0 K (by omega) u;have z0:mp (mrw v A β i 0) (2*v+2*m+1)=mp (fun _=>(0:Rat)) (2*v+2*m+1):=bV fun k _=>by unfold mrw;rw[if_neg (by omega),if_neg (by omega)]
  rw[z0,Int.natCast_zero]at q;have F:aV (2*(v:Int))=some ((2*v:Nat):Int):=xH (m:=0) (by omega) (by omega);have G:aV (((2*v:Nat):Int)+(i:Int))=some ((2*v+i:Nat):Int):=xH (m:=0) (by omega) (by omega);have I:aV (((2*v:Nat):Int)+(m:Int))=some ((2*v+m:Nat):Int):=xH (m:=0) (by omega) (by omega);have J:aV (((2*v+m:Nat):Int)+(i:Int))=some ((2*v+m+i:Nat):Int):=xH (m:=0) (by omega) (by omega);have one:Bd B (1:Rat):=Bd.mono (m:=1) (by constructor<;>decide) hB1;have hb:(vE v A β i).b=β i:=rfl;have L:(xB v m A β γ).lines=mp (vE v A β) m:=rfl;have hvr:(xB v m A β γ).vars=(v:Int):=rfl;have ih:=aNf (γ:=γ) s hβ hB1 hB hv hm u t (i+1) x (by omega) (by omega);have row:=fun k j=>aO7 (v:=v) (A:=A) (β:=β) (k:=k) him j
  have a1:tC (mp id i) [(mx (mU v m A β) i (2*v+2*m+1)).length]=some (mp id (i+1)):=by rw[iD];exact apM (g:=id) (by omega)
  have a2:mx (mU v m A β) i (2*v+2*m+1)++[mp (mU v m A β i) (2*v+2*m+1)]=mx (mU v m A β) (i+1) (2*v+2*m+1):=(aAK (fun i=>mp (mU v m A β i) (2*v+2*m+1)) i).symm;simp only[gA,L,hvr,aO,dT (show(i:Int)<(m:Int) by omega),bL,cC (f:=vE v A β) him,oB,qG (i:=2*v+2*m) (by omega),aC9 (n:=2*v+2*m+1) (z:=(0:Rat)) (by omega),hb,kN (hβ i him) hB,q,qP,F,G,I,J,aD3,aEz (w:=2*v+2*m+1) (k:=2*v+i) (show 2*v+i<2*v+2*m+1 by omega) one hB,aEz (w:=2*v+2*m+1) (k:=2*v+2*m) (show 2*v+2*m<2*v+2*m+1 by omega) (hβ i him) hB,aL9,nI];by_cases e:β i<0
  ·have hbi:kW (aAX v m β) i=((2*v+m+i:Nat):Int):=by unfold kW aAX;rw[if_pos e]
   have a3:tC (mp (kW (aAX v m β)) i) [((2*v+m+i:Nat):Int)]=some (mp (kW (aAX v m β)) (i+1)):=by rw[←hbi];exact apM (g:=kW (aAX v m β)) (by omega)
   have a4:mp (gN (gN (gN (mrw v A β i v) (2*v+i) (ngx β i 1)) (2*v+2*m) (ngx β i (β i))) (2*v+m+i) 1) (2*v+2*m+1)=mp (mU v m A β i) (2*v+2*m+1):=bV fun k j=>by
    have:=row k j;rw[if_pos e]at this;exact this
   simp only[dT (aEE.2 e),bL,cC (f:=gN (gN (mrw v A β i v) (2*v+i) (ngx β i 1)) (2*v+2*m) (ngx β i (β i))) (show 2*v+m+i<2*v+2*m+1 by omega),vA (f:=gN (gN (mrw v A β i v) (2*v+i) (ngx β i 1)) (2*v+2*m) (ngx β i (β i))) (show 2*v+m+i<2*v+2*m+1 by omega),oB,a4,a1,a3,a2,qG (i:=i) (by omega)];exact ih
  ·have hbi:kW (aAX v m β) i=((2*v+i:Nat):Int):=by unfold kW aAX;rw[if_neg e]
   have a3:tC (mp (kW (aAX v m β)) i) [((2*v+i:Nat):Int)]=some (mp (kW (aAX v m β)) (i+1)):=by rw[←hbi];exact apM (g:=kW (aAX v m β)) (by omega)
   have a4:mp (gN (gN (mrw v A β i v) (2*v+i) (ngx β i 1)) (2*v+2*m) (ngx β i (β i))) (2*v+2*m+1)=mp (mU v m A β i) (2*v+2*m+1):=bV fun k j=>by
    have:=row k j;rw[if_neg e]at this;exact this
   simp only[dF (fun h=>e (aEE.1 h)),bG,oB,a4,a1,a3,a2,qG (i:=i) (by omega)];exact ih
theorem aR1{v m B:Nat}{A:Nat→Nat→Rat}{β γ:Nat→Rat}(h:qX m v B A)(hβ:∀i,i<m→Bd B (β i))(hB1:1≤B)(hB:B≤1073741824)(hv:v≤1000)(hm:m≤1000){K:Nat}(j:v<K)(f:m<K):sV K (xB v m A β γ)=some ((v:Int),(m:Int),((2*v+2*m:Nat):Int),mp id m,[],mp (kW (aAX v m β)) m,mx (mU v m A β) m (2*v+2*m+1)):=by
 have e:=aNf (γ:=γ) h hβ hB1 hB hv hm j m 0 K (by omega) f;have z1:mx (mU v m A β) 0 (2*v+2*m+1)=[]:=rfl;have z2:mp id 0=([]:List Nat):=rfl;rw[z1,wE,z2,Int.natCast_zero]at e;have k:aV (2*(v:Int))=some ((2*v:Nat):Int):=xH (m:=0) (by omega) (by omega);have q:aV (2*(m:Int))=some ((2*m:Nat):Int):=xH (m:=0) (by omega) (by omega);have s:aV (((2*v:Nat):Int)+((2*m:Nat):Int))=some ((2*v+2*m:Nat):Int):=xH (m:=0) (by omega) (by omega);have t:(xB v m A β γ).lines=mp (vE v A β) m:=rfl;have hvr:(xB v m A β γ).vars=(v:Int):=rfl;simp only[sV,t,hvr,aO,k,q,s,oB,e,rN]
theorem aJw{v m:Nat}{A:Nat→Nat→Rat}{β:Nat→Rat}:tE m (2*v+2*m+1) (mx (mU v m A β) m (2*v+2*m+1)) id (mU v m A β):=
 ⟨fun i f=>by rw[iD];exact f,fun i j _ _ e=>e,fun i f=>by unfold mx;rw[List.getD_eq_getElem?_getD,show id i=i from rfl,wJ f];rfl⟩
def Szx(n C B:Nat)(Z:Nat→Nat→Rat)(c:Nat→Rat):Prop:=∀T g b,SX n C Z c T g b→qX n (C+1) B T∧∀k,k<C+1→Bd B (g k)
theorem aEp{w en B:Nat}{yF:Int→(List Nat)→(List Rat)→(List Int)→(List (List Rat))→Bool→Int→Option (Nat×(List Nat)×(List Rat)×(List Int)×(List (List Rat))×Bool×Int)}{g:Nat→Rat}{od:List Nat}{bs:List Int}{rs:List (List Rat)}{fl:Bool}{cr:Int}{code:Nat}{x:(List Nat)×(List Rat)×(List Int)×(List (List Rat))×Bool×Int}(s:∀k,k<w→Bd B (g k))(hB:B≤1073741824)(hen:en≤w)(hw:w≤100000)(u:∀col,ent g en 0=some col→yF (col:Int) od (mp g w) bs rs fl cr=some (code,x))(hc:code≠0)(K:Nat):∀(t i k:Nat),i+t=en→t<k→ent g en 0=ent g t i→bW K (en:Int) yF k od (mp g w) bs rs fl cr (i:Int)=some (match ent g t i with|none=>.go (od,mp g w,bs,rs,fl,cr)|some _=>.ret (code,x))
 |0,i,k,z,q,he=>by
  obtain⟨y,rfl,_⟩:=aT q;simp only[bW,dF (show¬(i:Int)<(en:Int) by omega),bG,ent]
 |t+1,i,k,z,q,he=>by
  obtain⟨y,rfl,_⟩:=aT q;have hiw:i<w:=by omega
  simp only[bW,dT (show(i:Int)<(en:Int) by omega),bL,cC (f:=g) hiw,oB,kN (s i hiw) hB,qG (i:=i) (by omega)];by_cases e:g i<0
  ·have j:ent g (t+1) i=some i:=by unfold ent;rw[decide_eq_true (aEE.2 e),bL]
   rw[decide_eq_true (aEE.2 e),bL,u i (by rw[he,j]),oB,j];have F:Nat.beq code 0=false:=by cases hcc:Nat.beq code 0 with|false=>rfl|true=>exact absurd (Nat.eq_of_beq_eq_true hcc) hc
   rw[F,bG]
  ·have j:ent g (t+1) i=ent g t (i+1):=by show(bif decide ((g i).num.sign<0) then _ else _)=_;rw[decide_eq_false (fun h=>e (aEE.1 h)),bG]
   rw[decide_eq_false (fun h=>e (aEE.1 h)),bG,j];exact aEp s hB hen hw u hc K t (i+1) y (by omega) (by omega) (by rw[he,j])
theorem aKJ{n C en B:Nat}{Z:Nat→Nat→Rat}{c:Nat→Rat}{od:Nat→Nat}{a1 a2:Int}(V:Szx n C B Z c)(hen:en≤C)(hB:B≤100000000)(hC:C≤10000)(hn:n≤10000){K:Nat}(hK:C+1+n<K):∀(f k:Nat) (s:STb) (rs:List (List Rat)) (cr:Int) (o:Option Nat) (j:STb),f+1<k→tE n (C+1) rs od s.t→SXs n C Z c s→aC5 n C en f s=some (o,j)→∃rs' cr',tE n (C+1) rs' od j.t∧cW K (en:Int) a1 a2 (C:Int) k (mp od n) (mp s.g (C+1)) (mp (kW s.b) n) rs true cr=some (match o with|none=>.go (mp od n,mp j.g (C+1),mp (kW j.b) n,rs',cr')|some col=>.ret ((col:Int),mp od n,mp j.g (C+1),mp (kW j.b) n,rs'))
 |0,k,s,rs,cr,o,j,X,u,F,hs=>by cases hs
 |f+1,k,s,rs,cr,o,j,X,u,F,hs=>by
  obtain⟨Y,rfl,hk'⟩:=aT X;obtain⟨hT,z⟩:=V _ _ _ F.1;have b0:Nat.beq 0 0=true:=rfl;have G:Nat.beq 1 0=false:=rfl;have I:Nat.beq 1 1=true:=rfl;have J:Nat.beq 2 0=false:=rfl;have L:Nat.beq 2 1=false:=rfl;have O:Nat.beq 2 2=true:=rfl;cases h:ent s.g en 0 with
  |none=>
   simp only[aC5,h]at hs;cases hs;have e:=aEp (yF:=cX K a1 a2 (C:Int)) (od:=mp od n) (bs:=mp (kW s.b) n) (rs:=rs) (fl:=false) (cr:=cr) (code:=1) (x:=(mp od n,mp s.g (C+1),mp (kW s.b) n,rs,false,cr)) (en:=en) z (by omega) (show en≤C+1 by omega) (by omega) (fun col hc=>by rw[h]at hc;cases hc) (by decide) K en 0 K (by omega) (by omega) rfl;rw[h,Int.natCast_zero]at e;obtain⟨k'',rfl,_⟩:=aT (show f+1<Y by omega);refine⟨rs,cr,u,?_⟩;simp only[cW,bL,iF,oB,gC,e,jR,b0,bG]
  |some col=>
   obtain⟨_,e2,e3,_⟩:=aCc _ _ _ h;have lv:=aTU (b:=s.b) (a1:=a1) (a2:=a2) (a5:=mp s.g (C+1)) (col:=col) (C:=C) u hT (show col<C+1 by omega) (by omega) (by omega) (by omega) (show n<K by omega);cases y:lvs s.t s.b C col n 0 none with
   |none=>
    simp only[aC5,h,y]at hs;cases hs;have U:cX K a1 a2 (C:Int) (col:Int) (mp od n) (mp s.g (C+1)) (mp (kW s.b) n) rs false cr=some (1,(mp od n,mp s.g (C+1),mp (kW s.b) n,rs,false,(col:Int))):=by
     rw[y]at lv;simp only[cX,lv,oB,dT (show oi none<0 by decide),bL]
    have e:=aEp (yF:=cX K a1 a2 (C:Int)) (od:=mp od n) (bs:=mp (kW s.b) n) (rs:=rs) (fl:=false) (cr:=cr) (code:=1) (x:=(mp od n,mp s.g (C+1),mp (kW s.b) n,rs,false,(col:Int))) (en:=en) z (by omega) (show en≤C+1 by omega) (by omega) (fun col' hc=>by rw[h]at hc;cases hc;exact U) (by decide) K en 0 K (by omega) (by omega) rfl;rw[h,Int.natCast_zero]at e;refine⟨rs,0,u,?_⟩;simp only[cW,bL,iF,oB,gC,e,G,I,bG]
   |some r=>
    simp only[aC5,h,y]at hs;obtain⟨n1,n2,n3,_⟩:=F.next (col:=col) (by omega) y;obtain⟨q,r1,r2⟩:=aPL (b:=s.b) (a2:=a1) (a3:=a2) (a4:=(C:Int)) u n2 (show col<C+1 by omega) hT z hB (by omega) (by omega) (show C+1+n<K by omega);have U:cX K a1 a2 (C:Int) (col:Int) (mp od n) (mp s.g (C+1)) (mp (kW s.b) n) rs false cr=some (2,(mp od n,mp (gpv s.g s.t r col) (C+1),mp (kW (gN s.b r col)) n,q,true,cr)):=by
     rw[y]at lv;have e4:oi (some r)=(r:Int):=rfl;rw[e4]at lv;simp only[cX,lv,oB,dF (show¬(r:Int)<0 by omega),bG,r2]
    have e:=aEp (yF:=cX K a1 a2 (C:Int)) (od:=mp od n) (bs:=mp (kW s.b) n) (rs:=rs) (fl:=false) (cr:=cr) (code:=2) (x:=(mp od n,mp (gpv s.g s.t r col) (C+1),mp (kW (gN s.b r col)) n,q,true,cr)) (en:=en) z (by omega) (show en≤C+1 by omega) (by omega) (fun col' hc=>by rw[h]at hc;cases hc;exact U) (by decide) K en 0 K (by omega) (by omega) rfl;rw[h,Int.natCast_zero]at e;obtain⟨rs',cr',q1,q2⟩:=aKJ (a1:=a1) (a2:=a2) V hen hB hC hn hK f Y (snx s r col) q cr o j (by omega) r1 n1 hs;refine⟨rs',cr',q1,?_⟩;rw[←q2];simp only[cW,bL,iF,oB,gC,e,J,L,O,bG];rfl
theorem aPo{n C en B f:Nat}{Z:Nat→Nat→Rat}{c:Nat→Rat}{od:Nat→Nat}{a1 a2:Int}{s e:STb}{rs:List (List Rat)}{o:Option Nat}(h:Szx n C B Z c)(hen:en≤C)(hB:B≤100000000)(j:C≤10000)(k:n≤10000){K:Nat}(q:C+1+n<K)(u:f+1<K)(x:tE n (C+1) rs od s.t)(y:SXs n C Z c s)(hs:aC5 n C en f s=some (o,e)):∃rs',tE n (C+1) rs' od e.t∧jN K (en:Int) a1 a2 (C:Int) (mp od n) (mp s.g (C+1)) (mp (kW s.b) n) rs=some (oi o,mp od n,mp e.g (C+1),mp (kW e.b) n,rs'):=by
 obtain⟨rs',cr',z,F⟩:=aKJ (a1:=a1) (a2:=a2) h hen hB j k q f K s rs 0 o e u x y hs;refine⟨rs',z,?_⟩;simp only[jN,F,oB];cases o with
 |none=>simp only[mY];rfl
 |some col=>rfl
theorem aLR{f:Nat→Rat}{n B:Nat}(h:∀k,k<n→Bd B (f k))(hB:B≤1073741824)(s:n≤100000)(K:Nat):∀(t i k:Nat),i+t=n→t<k→gJ K (mp f n) gE k (i:Int)=some (match fnz f t i with|none=>.go ()|some q=>.ret (q:Int))
 |0,i,k,u,e=>by
  obtain⟨j,rfl,_⟩:=aT e;simp only[gJ,aO,dF (show¬(i:Int)<(n:Int) by omega),bG,fnz]
 |t+1,i,k,u,e=>by
  obtain⟨j,rfl,_⟩:=aT e;have hin:i<n:=by omega
  have ih:=aLR h hB s K t (i+1) j (by omega) (by omega);simp only[gJ,aO,dT (show(i:Int)<(n:Int) by omega),bL,cC (f:=f) hin,oB,gE,kN (h i hin) hB,qG (i:=i) (by omega),fnz];cases((f i).num.sign != 0) with
  |true=>simp only[bL]
  |false=>simp only[bG];exact ih
theorem aTB{α:Type}{f:Nat→α}{n lo e:Nat}(k:lo≤e)(q:e≤n):slL (mp f n) (lo:Int) (e:Int)=some (mp (fun j=>f (lo+j)) (e-lo)):=by
 unfold slL;rw[if_pos ⟨by omega,by omega,by rw[aO];omega⟩];congr 1;apply List.ext_getElem?;intro j;rw[Int.toNat_natCast,Int.toNat_natCast,List.getElem?_take];by_cases h:j<e-lo
 ·rw[if_pos h,List.getElem?_drop,wJ (by omega),wJ h]
 ·rw[if_neg h,List.getElem?_eq_none (by rw[aO];omega)]
theorem aVP{α:Type}{f:Nat→α}{n k:Nat}(h:k≤n):slL (mp f n) 0 (k:Int)=some (mp f k):=by
 have e:=aTB (f:=f) (lo:=0) (Nat.zero_le k) h;rw[Int.natCast_zero,Nat.sub_zero]at e;rw[e];exact congrArg some (bV fun j _=>by rw[Nat.zero_add])
theorem aEh{n C last B:Nat}{Z:Nat→Nat→Rat}{c:Nat→Rat}{od:Nat→Nat}{a1 a2:Int}{a6:List Int}(h:a6.length=n)(u:Szx n C B Z c)(F:last≤C)(hB:B≤100000000)(G:C≤10000)(I:n≤10000){K:Nat}(x:C+1+n<K):∀(t i k:Nat) (s:STb) (rs:List (List Rat)),i+t=n→t<k→tE n (C+1) rs od s.t→SX n C Z c s.t s.g s.b→∃rs',tE n (C+1) rs' od (sdr last t i s).t∧cL K (last:Int) a1 a2 (C:Int) a6 k (mp od n) (mp s.g (C+1)) (mp (kW s.b) n) rs (i:Int)=some (mp od n,mp (sdr last t i s).g (C+1),mp (kW (sdr last t i s).b) n,rs')
 |0,i,k,s,rs,O,y,e,j=>by
  obtain⟨z,rfl,_⟩:=aT y;exact⟨rs,e,by simp only[cL,h,dF (show¬(i:Int)<(n:Int) by omega),bG,sdr]⟩
 |t+1,i,k,s,rs,O,y,e,j=>by
  obtain⟨z,rfl,_⟩:=aT y;have hin:i<n:=by omega
  obtain⟨L,U⟩:=u _ _ _ j;have V:decide (kW s.b i<(last:Int))=decide (s.b i<last):=by rw[decide_eq_decide];unfold kW;omega
  have sl:slL (mp (s.t i) (C+1)) 0 (last:Int)=some (mp (s.t i) last):=aVP (by omega);have ix:=aLR (f:=s.t i) (n:=last) (fun k y=>L i k hin (by omega)) (by omega) (by omega) K last 0 K (by omega) (by omega);rw[Int.natCast_zero]at ix;have X:nK K (mp (s.t i) last) gE=some (oi (fnz (s.t i) last 0)):=by
   simp only[nK,ix,oB];cases fnz (s.t i) last 0 with
   |none=>simp only[oH];rfl
   |some q=>rfl
  simp only[cL,h,dT (show(i:Int)<(n:Int) by omega),bL,cC (f:=kW s.b) hin,oB,V,cC (f:=od) hin,e.row i hin,sl,X,qG (i:=i) (by omega),sdr];cases hd:decide (s.b i<last) with
  |true=>
   simp only[bL];exact aEh h u F hB G I x t (i+1) z s rs (by omega) (by omega) e j
  |false=>
   simp only[bG];cases Y:fnz (s.t i) last 0 with
   |none=>
    simp only[dF (show¬0≤oi none by decide),bG];exact aEh h u F hB G I x t (i+1) z s rs (by omega) (by omega) e j
   |some col=>
    obtain⟨_,f2,f3⟩:=aGa _ 0 _ Y;have e4:oi (some col)=(col:Int):=rfl;obtain⟨J,r1,r2⟩:=aPL (b:=s.b) (a2:=a1) (a3:=a2) (a4:=(C:Int)) e hin (show col<C+1 by omega) L U hB (by omega) (by omega) x;simp only[e4,dT (show(0:Int)≤(col:Int) by omega),bL,r2,oB];exact aEh h u F hB G I x t (i+1) z (snx s i col) J (by omega) (by omega) r1 (j.pivot hin (by omega) f3)
def fdx(b:Nat→Nat)(k:Nat):Nat→Nat→Option Nat
 |0,_=>none
 |t+1,i=>bif decide (k=b i) then some i else fdx b k t (i+1)
theorem aCs{b:Nat→Nat}{k:Nat}:∀t i r,fdx b k t i=some r→i≤r∧r<i+t∧b r=k
 |0,i,r,h=>by cases h
 |t+1,i,r,h=>by
  unfold fdx at h;by_cases e:k=b i
  ·rw[decide_eq_true e,bL]at h;cases h;exact⟨Nat.le_refl _,by omega,e.symm⟩
  ·rw[decide_eq_false e,bG]at h;obtain⟨j,q,f⟩:=aCs t (i+1) r h;exact⟨by omega,by omega,f⟩
theorem aJ8{b:Nat→Nat}{k:Nat}:∀t i,fdx b k t i=none→∀j,i≤j→j<i+t→b j≠k
 |0,i,_,j,f,q=>by omega
 |t+1,i,h,j,f,q=>by
  unfold fdx at h;by_cases e:k=b i
  ·rw[decide_eq_true e,bL]at h;cases h
  ·rw[decide_eq_false e,bG]at h;by_cases ej:j=i
   ·rw[ej];exact fun s=>e s.symm
   ·exact aJ8 t (i+1) h j (by omega) (by omega)
theorem aJV{b:Nat→Nat}{n q:Nat}(s:n≤100000)(K:Nat):∀(t i k:Nat),i+t=n→t<k→kF K (mp (kW b) n) (q:Int) k (i:Int)=some (match fdx b q t i with|none=>.go ()|some r=>.ret (r:Int))
 |0,i,k,u,h=>by
  obtain⟨j,rfl,_⟩:=aT h;simp only[kF,aO,dF (show¬(i:Int)<(n:Int) by omega),bG,fdx]
 |t+1,i,k,u,h=>by
  obtain⟨j,rfl,_⟩:=aT h;have hin:i<n:=by omega
  have ih:=aJV (b:=b) (q:=q) s K t (i+1) j (by omega) (by omega);simp only[kF,aO,dT (show(i:Int)<(n:Int) by omega),bL,cC (f:=kW b) hin,oB,qG (i:=i) (by omega),fdx];by_cases e:q=b i
  ·rw[qT (show(q:Int)=kW b i by unfold kW;omega),bL,decide_eq_true e,bL]
  ·rw[qF (show¬(q:Int)=kW b i by unfold kW;omega),bG,decide_eq_false e,bG];exact ih
theorem aJD{b:Nat→Nat}{n q:Nat}(e:n≤100000){K:Nat}(f:n<K):oS K (mp (kW b) n) (q:Int)=some (oi (fdx b q n 0)):=by
 have h:=aJV (b:=b) (q:=q) e K n 0 K (by omega) f;rw[Int.natCast_zero]at h;simp only[oS,h,oB];cases fdx b q n 0 with
 |none=>simp only[rS];rfl
 |some r=>rfl
theorem aGN{n w:Nat}{Z T:Nat→Nat→Rat}{b:Nat→Nat}(h:TI n w Z T b){e k:Nat}:aDr T b n e k=match fdx b k n 0 with|none=>0|some r=>T r e:=by
 unfold aDr;cases f:fdx b k n 0 with
 |none=>exact dM fun i j=>if_neg (aJ8 n 0 f i (Nat.zero_le _) (by omega))
 |some r=>
  obtain⟨_,t,q⟩:=aCs n 0 r f;have hr:r<n:=by omega
  rw[kO hr fun i j hne=>if_neg fun s=>hne (h.inj j hr (by rw[s,q])),if_pos q]
theorem aUc{n C k:Nat}{Z T:Nat→Nat→Rat}{b od:Nat→Nat}{rs:List (List Rat)}{a1 a2:Int}{a5:List Rat}(h:TI n (C+1) Z T b)(e:tE n (C+1) rs od T)(j:n≤100000){K:Nat}(q:n<K):jQ K (k:Int) a1 a2 (C:Int) (mp od n) a5 (mp (kW b) n) rs=some (aDr T b n C k):=by
 rw[aGN h];simp only[jQ,aJD j q,oB];cases s:fdx b k n 0 with
 |none=>simp only[dF (show¬0≤oi none by decide),bG]
 |some r=>
  obtain⟨_,u,x⟩:=aCs n 0 r s;have hr:r<n:=by omega
  have t:oi (some r)=(r:Int):=rfl;simp only[t,dT (show(0:Int)≤(r:Int) by omega),bL,cC (f:=od) hr,oB,e.row r hr,cC (f:=T r) (show C<C+1 by omega)]
theorem aFJ{n w B:Nat}{Z T:Nat→Nat→Rat}{b:Nat→Nat}(h:TI n w Z T b){e k:Nat}(hB:1≤B)(f:∀i,i<n→Bd B (T i e)):Bd B (aDr T b n e k):=by
 rw[aGN h];cases j:fdx b k n 0 with
 |none=>exact Bd.zero.mono hB
 |some r=>
  obtain⟨_,q,s⟩:=aCs n 0 r j;exact f r (by omega)
theorem aTY{n C k col B:Nat}{Z T:Nat→Nat→Rat}{b od:Nat→Nat}{rs:List (List Rat)}{a1 a2:Int}{a6:List Rat}(h:TI n (C+1) Z T b)(j:tE n (C+1) rs od T)(hc:col<C+1)(hb:∀i,i<n→b i≠col)(q:qX n (C+1) B T)(hB:B≤1073741824)(s:n≤100000){K:Nat}(t:n<K):jE K (k:Int) (col:Int) a1 a2 (C:Int) (mp od n) a6 (mp (kW b) n) rs=some (tU T b n col k):=by
 by_cases e:k=col
 ·subst e;rw[aE4 hb];simp only[jE,nM,qT (rfl:(k:Int)=k),bL,aD3,oB]
 ·rw[aAM e,aGN h];simp only[jE,nM,qF (show¬(k:Int)=(col:Int) by omega),bG,aJD s t,oB];cases u:fdx b k n 0 with
  |none=>
   simp only[dF (show¬0≤oi none by decide),bG,oB];rfl
  |some r=>
   obtain⟨_,y,z⟩:=aCs n 0 r u;have hr:r<n:=by omega
   have x:oi (some r)=(r:Int):=rfl;simp only[x,dT (show(0:Int)≤(r:Int) by omega),bL,cC (f:=od) hr,oB,j.row r hr,cC (f:=T r) hc,yY (q r col hr hc) hB]
theorem aIa{n w B:Nat}{Z T:Nat→Nat→Rat}{b:Nat→Nat}(h:TI n w Z T b){col k:Nat}(hb:∀i,i<n→b i≠col)(hB:1≤B)(f:∀i,i<n→Bd B (T i col)):Bd B (tU T b n col k):=by
 by_cases e:k=col
 ·subst e;rw[aE4 hb];exact Bd.mono (m:=1) (by constructor<;>decide) hB
 ·rw[aAM e];exact(aFJ h hB f).neg
theorem aLY{n v C B:Nat}{Z T:Nat→Nat→Rat}{b od:Nat→Nat}{rs:List (List Rat)}{a1:Int}{a4:List Rat}{s:List Rat}(q:s.length=v)(h:TI n (C+1) Z T b)(z:tE n (C+1) rs od T)(F:qX n (C+1) B T)(hB1:1≤B)(hB:B≤1073741824)(hv:v≤1000)(G:n≤100000){K:Nat}(I:n<K):∀(t i k:Nat) (f:Nat→Rat),i+t=v→t<k→(∀j,j<i→f j=spt T b n v C j)→eP K (v:Int) a1 (C:Int) (mp od n) a4 (mp (kW b) n) rs s k (mp f v) (i:Int)=some (mp (spt T b n v C) v)
 |0,i,k,f,u,x,y=>by
  obtain⟨J,rfl,_⟩:=aT x;simp only[eP,q,dF (show¬(i:Int)<(v:Int) by omega),bG];exact congrArg some (bV fun j U=>y j (by omega))
 |t+1,i,k,f,u,x,y=>by
  obtain⟨J,rfl,_⟩:=aT x;have hiv:i<v:=by omega
  have V:aV ((v:Int)+(i:Int))=some ((v+i:Nat):Int):=xH (m:=0) (by omega) (by omega);have L:∀k,Bd B (aDr T b n C k):=fun k=>aFJ h hB1 fun i u=>F i C u (by omega)
  have X:aDr T b n C i-aDr T b n C (v+i)=spt T b n v C i:=rfl;have O:∀k:Nat,jQ K (k:Int) (v:Int) a1 (C:Int) (mp od n) a4 (mp (kW b) n) rs=some (aDr T b n C k):=fun k=>aUc h z G I
  simp only[eP,q,dT (show(i:Int)<(v:Int) by omega),bL,O i,O (v+i),oB,V,aBD (L i) (L (v+i)) hB hB,X,cC (f:=f) hiv,vA (f:=f) hiv,qG (i:=i) (by omega)];exact aLY q h z F hB1 hB hv G I t (i+1) J (gN f i (spt T b n v C i)) (by omega) (by omega) (fun j U=>by
   by_cases e:j=i
   ·rw[e,aN]
   ·rw[aZ e];exact y j (by omega))
theorem aUp{n v C B:Nat}{Z T:Nat→Nat→Rat}{b od:Nat→Nat}{rs:List (List Rat)}{a1:Int}{a4:List Rat}(h:TI n (C+1) Z T b)(k:tE n (C+1) rs od T)(q:qX n (C+1) B T)(hB1:1≤B)(hB:B≤1073741824)(hv:v≤1000)(s:n≤100000){K:Nat}(t:n<K)(f:v<K):fK K (v:Int) a1 (C:Int) (mp od n) a4 (mp (kW b) n) rs=some (mp (spt T b n v C) v):=by
 have e:=aLY (a1:=a1) (a4:=a4) (aO (fun _=>(0:Rat)) v) h k q hB1 hB hv s t v 0 K (fun _=>0) (by omega) f (fun j u=>by omega);rw[Int.natCast_zero]at e;simp only[fK,aC9 (n:=v) (z:=(0:Rat)) (by omega),oB,e,mH]
theorem aL8{n v C col B:Nat}{Z T:Nat→Nat→Rat}{b od:Nat→Nat}{rs:List (List Rat)}{a1:Int}{a5:List Rat}{s:List Rat}(q:s.length=v)(h:TI n (C+1) Z T b)(F:tE n (C+1) rs od T)(hc:col<C+1)(hb:∀i,i<n→b i≠col)(u:qX n (C+1) B T)(hB1:1≤B)(hB:B≤1073741824)(hv:v≤1000)(G:n≤100000){K:Nat}(I:n<K):∀(t i k:Nat) (f:Nat→Rat),i+t=v→t<k→(∀j,j<i→f j=sry T b n v col j)→eO K (v:Int) a1 (C:Int) (col:Int) (mp od n) a5 (mp (kW b) n) rs s k (mp f v) (i:Int)=some (mp (sry T b n v col) v)
 |0,i,k,f,x,y,z=>by
  obtain⟨J,rfl,_⟩:=aT y;simp only[eO,q,dF (show¬(i:Int)<(v:Int) by omega),bG];exact congrArg some (bV fun j U=>z j (by omega))
 |t+1,i,k,f,x,y,z=>by
  obtain⟨J,rfl,_⟩:=aT y;have hiv:i<v:=by omega
  have V:aV ((v:Int)+(i:Int))=some ((v+i:Nat):Int):=xH (m:=0) (by omega) (by omega);have L:∀k,Bd B (tU T b n col k):=fun k=>aIa h hb hB1 fun i x=>u i col x hc
  have X:tU T b n col i-tU T b n col (v+i)=sry T b n v col i:=rfl;have O:∀k:Nat,jE K (k:Int) (col:Int) (v:Int) a1 (C:Int) (mp od n) a5 (mp (kW b) n) rs=some (tU T b n col k):=fun k=>aTY h F hc hb u hB G I
  simp only[eO,q,dT (show(i:Int)<(v:Int) by omega),bL,O i,O (v+i),oB,V,aBD (L i) (L (v+i)) hB hB,X,cC (f:=f) hiv,vA (f:=f) hiv,qG (i:=i) (by omega)];exact aL8 q h F hc hb u hB1 hB hv G I t (i+1) J (gN f i (sry T b n v col i)) (by omega) (by omega) (fun j U=>by
   by_cases e:j=i
   ·rw[e,aN]
   ·rw[aZ e];exact z j (by omega))
theorem aT9{n v C col B:Nat}{Z T:Nat→Nat→Rat}{b od:Nat→Nat}{rs:List (List Rat)}{a1:Int}{a5:List Rat}(h:TI n (C+1) Z T b)(k:tE n (C+1) rs od T)(hc:col<C+1)(hb:∀i,i<n→b i≠col)(q:qX n (C+1) B T)(hB1:1≤B)(hB:B≤1073741824)(hv:v≤1000)(s:n≤100000){K:Nat}(t:n<K)(f:v<K):hU K (v:Int) a1 (C:Int) (col:Int) (mp od n) a5 (mp (kW b) n) rs=some (mp (sry T b n v col) v):=by
 have e:=aL8 (a1:=a1) (a5:=a5) (aO (fun _=>(0:Rat)) v) h k hc hb q hB1 hB hv s t v 0 K (fun _=>0) (by omega) f (fun j u=>by omega);rw[Int.natCast_zero]at e;simp only[hU,aC9 (n:=v) (z:=(0:Rat)) (by omega),oB,e,mF]
theorem aOJ{v m C:Nat}{g:Nat→Rat}{a2:Int}{a3:List Nat}{a5:List Int}{a6:List (List Rat)}(k:2*v+m≤C+1)(hv:v≤1000)(hm:m≤1000):lI (v:Int) (m:Int) a2 a3 (mp g (C+1)) a5 a6=some (mp (aAY v g) m)∧jK (v:Int) (m:Int) a2 (mp g (C+1)) a3 a5 a6=some (mp (aAY v g) m):=by
 have e:aV (2*(v:Int))=some ((2*v:Nat):Int):=xH (m:=0) (by omega) (by omega);have f:aV (((2*v:Nat):Int)+(m:Int))=some ((2*v+m:Nat):Int):=xH (m:=0) (by omega) (by omega);have h:slL (mp g (C+1)) ((2*v:Nat):Int) ((2*v+m:Nat):Int)=some (mp (aAY v g) m):=by
  rw[aTB (show 2*v≤2*v+m by omega) k,show 2*v+m-2*v=m by omega];rfl
 have j:dQ (mp (aAY v g) m)=some (mp (aAY v g) m):=by
  simp only[dQ,aBM (show([]:List Rat).length+(mp (aAY v g) m).length≤68719476736 by rw[aO];show 0+m≤_;omega),oB,List.nil_append]
 constructor
 ·simp only[lI,e,f,h,j,oB]
 ·simp only[jK,e,f,h,j,oB]
theorem aG3{v m:Nat}{A:Nat→Nat→Rat}{β:Nat→Rat}{p:aW}(hp:p.vars=(v:Int))(K:Nat):∀(t i k:Nat),i+t=m→t<k→m≤1000→fR K (mp (vE v A β) m) (pN p) k (i:Int)=some (.go ())
 |0,i,k,j,e,hm=>by
  obtain⟨h,rfl,_⟩:=aT e;simp only[fR,aO,dF (show¬(i:Int)<(m:Int) by omega),bG]
 |t+1,i,k,j,e,hm=>by
  obtain⟨h,rfl,_⟩:=aT e;have hs:(vE v A β i).a=mp (A i) v:=rfl;simp only[fR,aO,dT (show(i:Int)<(m:Int) by omega),bL,cC (f:=vE v A β) (show i<m by omega),oB,pN,hs,hp,nF (rfl:(v:Int)=(v:Int)),bG,qG (i:=i) (by omega)];exact aG3 hp K t (i+1) h (by omega) (by omega) hm
theorem aNn{v m:Nat}{A:Nat→Nat→Rat}{β γ:Nat→Rat}(hv:v≤32)(hm:m≤64){K:Nat}(e:m<K):uP K (xB v m A β γ)=some 0:=by
 have h:=aG3 (m:=m) (A:=A) (β:=β) (p:=xB v m A β γ) rfl K m 0 K (by omega) e (by omega);rw[Int.natCast_zero]at h;have f:(xB v m A β γ).lines=mp (vE v A β) m:=rfl;have hvr:(xB v m A β γ).vars=(v:Int):=rfl;have j:(xB v m A β γ).goal=mp γ v:=rfl;simp only[uP,f,hvr,j,aO,dF (show¬(32:Int)<(v:Int) by omega),dF (show¬(64:Int)<(m:Int) by omega),dF (show¬(v:Int)<0 by omega),nF (rfl:(v:Int)=(v:Int)),bG,n0,pV,h,nD,oB,dF (show¬(0:Int)≤-1 by omega)]
structure SPk (v m M B:Nat) (A:Nat→Nat→Rat) (β γ:Nat→Rat) (D:Rat):Prop where
 D0:D≠0
 DM:xZ M D
 zA:∀i k,i<m→k<v→xZ M (A i k*D)
 zβ:∀i,i<m→xZ M (β i*D)
 zγ:∀k,k<v→xZ M (γ k*D)
 hv:v≤8
 hm:m≤12
 hM:(64*M)^(m+1)<2^B
 hB1:1≤B
 hB:B≤1000000
section
variable {v m M B:Nat} {A:Nat→Nat→Rat} {β γ:Nat→Rat} {D:Rat}
theorem xZ.sg{x:Rat}{M:Nat}(h:xZ M x):xZ M (-x):=by
 obtain⟨q,e,f⟩:=h;exact⟨-q,by rw[e];exact(Rat.intCast_neg q).symm,by omega⟩
theorem aSa{β:Nat→Rat}{i M:Nat}{x D:Rat}(h:xZ M (x*D)):xZ M (ngx β i x*D):=by
 unfold ngx;split
 ·rw[Rat.neg_mul];exact h.sg
 ·exact h
theorem SPk.zZ(h:SPk v m M B A β γ D):∀i k,i<m→k<2*v+2*m+1→xZ M (mU v m A β i k*D):=fun i k e f=>by
 have z0:xZ M (0*D):=by rw[Rat.zero_mul];exact xZ.zero.mono (Nat.zero_le _)
 have z1:xZ M (1*D):=by rw[Rat.one_mul];exact h.DM
 unfold mU;split
 ·exact aSa (h.zA i k e (by omega))
 ·split
  ·exact aSa (by rw[Rat.neg_mul];exact(h.zA i (k-v) e (by omega)).sg)
  ·split
   ·split
    ·exact aSa z1
    ·exact z0
   ·split
    ·split
     ·exact z1
     ·exact z0
    ·exact aSa (h.zβ i e)
theorem SPk.z1(h:SPk v m M B A β γ D):∀k,xZ M (cs1 v m k*D):=fun k=>by
 have z0:xZ M (0*D):=by rw[Rat.zero_mul];exact xZ.zero.mono (Nat.zero_le _)
 have z1:xZ M (1*D):=by rw[Rat.one_mul];exact h.DM
 unfold cs1;split<;>assumption
theorem SPk.z2(h:SPk v m M B A β γ D):∀k,xZ M (cs2 v γ k*D):=fun k=>by
 have z0:xZ M (0*D):=by rw[Rat.zero_mul];exact xZ.zero.mono (Nat.zero_le _)
 unfold cs2;split
 ·rename_i e;rw[Rat.neg_mul];exact(h.zγ k e).sg
 ·split
  ·exact h.zγ _ (by omega)
  ·exact z0
theorem SPk.s1(h:SPk v m M B A β γ D):Szx m (2*v+2*m) B (mU v m A β) (cs1 v m):=fun T g b e=>
 e.bd h.D0 h.DM h.zZ (fun k _=>h.z1 k) (by have:=h.hm;omega) h.hM
theorem SPk.s2(h:SPk v m M B A β γ D):Szx m (2*v+2*m) B (mU v m A β) (cs2 v γ):=fun T g b e=>
 e.bd h.D0 h.DM h.zZ (fun k _=>h.z2 k) (by have:=h.hm;omega) h.hM
theorem SPk.bZ(h:SPk v m M B A β γ D):qX m (2*v+2*m+1) B (mU v m A β):=(h.s1 _ _ _ aQL.1).1
theorem SPk.bA(h:SPk v m M B A β γ D):qX m v B A:=fun i k e f=>by
 have:=h.bZ i k e (by omega);rw[aLv f,←aCN]at this;unfold ngx at this;split at this
 ·have:=this.neg;rwa [Rat.neg_neg]at this
 ·exact this
theorem SPk.bβ(h:SPk v m M B A β γ D):∀i,i<m→Bd B (β i):=fun i e=>by
 have:=h.bZ i (2*v+2*m) e (by omega);rw[aH6,←aCN]at this;unfold ngx at this;split at this
 ·have:=this.neg;rwa [Rat.neg_neg]at this
 ·exact this
theorem SPk.bγ(h:SPk v m M B A β γ D):∀k,k<v→Bd B (γ k):=fun k q=>by
 have s:SX 0 (2*v+2*m) (mU v m A β) (cs2 v γ) (mU v m A β) (cs2 v γ) (fun _=>0):=
  ⟨⟨⟨fun _ _=>0,fun i _ f=>by omega⟩,fun j t=>by omega,fun i _ f=>by omega⟩,fun i f=>by omega,fun x _ i f=>by omega,fun i f=>by omega,⟨fun _=>0,fun k _=>by show _=_-0;grind⟩⟩
 have hM:(64*M)^(0+1)<2^B:=by
  refine Nat.lt_of_le_of_lt ?_ h.hM;by_cases e:64*M=0
  ·rw[e];exact Nat.zero_le _
  ·exact Nat.pow_le_pow_right (by omega) (by omega)
 have hb:=(s.bd (B:=B) h.D0 h.DM (fun i _ f=>by omega) (fun k _=>h.z2 k) (by omega) hM).2 k (by omega);unfold cs2 at hb;rw[if_pos q]at hb;have:=hb.neg
 rwa [Rat.neg_neg]at this
structure aV9 (v m B:Nat) (A:Nat→Nat→Rat) (β γ:Nat→Rat) (a:k6):Prop where
 is:(a.kind=1∧a.x=[]∧a.value=0∧∃Y,a.y=mp Y m∧aVn v m A β Y∧∀i,i<m→Bd B (Y i))∨
  (a.kind=2∧a.value=0∧∃X Y,a.x=mp X v∧a.y=mp Y v∧aWv v m A β γ X Y∧(∀i,i<v→Bd (2*B+1) (X i))∧∀i,i<v→Bd (2*B+1) (Y i))∨
  (a.kind=0∧∃X Y,a.x=mp X v∧a.y=mp Y m∧a.value=sm (fun k=>γ k*X k) v∧aRO v m A β γ X Y∧(∀i,i<v→Bd (2*B+1) (X i))∧∀i,i<m→Bd B (Y i))
theorem aN9(h:SPk v m M B A β γ D):∃a:k6,aV9 v m B A β γ a∧∀K,(2*v+2*m)^m+1000≤K→oC K (xB v m A β γ)=some (a,0):=by
 have hv:=h.hv;have hm:=h.hm;have hB:=h.hB;have hB1:=h.hB1;have hbA:=h.bA;have hbβ:=h.bβ;have hbγ:=h.bγ;have e1:aV (2*(v:Int))=some ((2*v:Nat):Int):=xH (m:=0) (by omega) (by omega);have e2:aV (((2*v:Nat):Int)+(m:Int))=some ((2*v+m:Nat):Int):=xH (m:=0) (by omega) (by omega);have hvr:(xB v m A β γ).vars=(v:Int):=rfl;have hgo:(xB v m A β γ).goal=mp γ v:=rfl;have Y:=aQL (v:=v) (m:=m) (A:=A) (β:=β);have one:Bd B (1:Rat):=Bd.mono (m:=1) (by constructor<;>decide) hB1;have bc1:∀k,Bd B (cs1 v m k):=fun k=>by unfold cs1;split;exact one;exact Bd.zero.mono hB1
 have bp:∀(c:Nat→Rat) (T:Nat→Nat→Rat) (b:Nat→Nat),TI m (2*v+2*m+1) (mU v m A β) T b→(∀i,i<m→b i<2*v+2*m)→(∀k,k<2*v+2*m+1→Bd B (c k))→qX m (2*v+2*m+1) B T→∀j,j≤m→∀k,k<2*v+2*m+1→Bd (40*B) (prc c T b j k):=fun c T b ti hb hc hT j hj k hk=>by
  refine(aOj (B0:=B) (B:=B) (fun i x=>by have:=hb i x;omega) hc hT (fun i x j hj=>by rw[aMv ti j (by omega) i x,if_neg (by omega)]) j hj k hk).mono ?_;have h1:j*(B+B+1)≤12*(3*B):=Nat.mul_le_mul (by omega) (by omega);omega
 obtain⟨o1,s1,hs1⟩:=aHp (f:=(2*v+2*m)^m) Y (Nat.le_refl _) (Nat.le_refl _);obtain⟨I,_,hn1,hc1⟩:=aGM (P:=fun _=>True) (Nat.le_refl _) (fun _ _ _ _ _ _ _ _=>trivial) _ _ _ _ Y trivial hs1;have ho1:o1=none:=by
  cases o1 with
  |none=>rfl
  |some col=>
   obtain⟨c1,c2,c3⟩:=hc1 col rfl;exact(aPs I c1 c2 c3).elim
 subst ho1;obtain⟨bT1,bg1⟩:=h.s1 _ _ _ I.1;have hW:∀K,(2*v+2*m)^m+1000≤K→∃z,tE m (2*v+2*m+1) z id s1.t∧oC K (xB v m A β γ)=bif(decide (s1.g (2*v+2*m)<0)) then some ((⟨1,([]:List Rat),mp (aAY v s1.g) m,0⟩:k6),0) else((l9 K ((2*v+m:Nat):Int) (v:Int) (m:Int) ((2*v+2*m:Nat):Int) (mp id m) (mp s1.g (2*v+2*m+1)) (mp (kW s1.b) m) z).bind fun F=>(iA K (nB (xB v m A β γ)) (v:Int) (m:Int) ((2*v+2*m:Nat):Int) F.1 F.2.1 F.2.2.1 F.2.2.2).bind fun v94=>(jN K ((2*v+m:Nat):Int) (v:Int) (m:Int) ((2*v+2*m:Nat):Int) F.1 v94 F.2.2.1 F.2.2.2).bind fun q=>bif(decide (0≤q.1)) then((hU K (v:Int) (m:Int) ((2*v+2*m:Nat):Int) q.1 q.2.1 q.2.2.1 q.2.2.2.1 q.2.2.2.2).bind fun L=>(fK K (v:Int) (m:Int) ((2*v+2*m:Nat):Int) q.2.1 q.2.2.1 q.2.2.2.1 q.2.2.2.2).bind fun v123=>some ((⟨2,v123,L,0⟩:k6),0)) else((fK K (v:Int) (m:Int) ((2*v+2*m:Nat):Int) q.2.1 q.2.2.1 q.2.2.2.1 q.2.2.2.2).bind fun V=>(jK (v:Int) (m:Int) ((2*v+2*m:Nat):Int) q.2.2.1 q.2.1 q.2.2.2.1 q.2.2.2.2).bind fun v131=>(vZ K (mp γ v) V).bind fun v133=>some ((⟨0,V,v131,v133⟩:k6),0))):=fun K X=>by
  have mk:=aR1 (γ:=γ) hbA hbβ hB1 (by omega) (by omega) (by omega) (show v<K by omega) (show m<K by omega);have ha1:∀k:Nat,k<2*v+2*m→pZ ((2*v+m:Nat):Int) (k:Int)=some (cs1 v m k):=fun k hk=>by
   unfold pZ cs1;by_cases e:2*v+m≤k
   ·rw[dT (show((2*v+m:Nat):Int)≤(k:Int) by omega),bL,aD3,oB,if_pos ⟨e,hk⟩]
   ·rw[dF (show¬((2*v+m:Nat):Int)≤(k:Int) by omega),bG,if_neg (fun h=>e h.1)]
  have pr:=aQU (a1:=(v:Int)) (a2:=(m:Int)) (a5:=[]) (K:=K) aJw ha1 aP8 (fun i x=>by have:=aFL (v:=v) (β:=β) x;omega) (h.bZ.mono (show B≤40*B by omega)) (bp _ _ _ aMj (fun i x=>aFL x) (fun k _=>bc1 k) h.bZ) (by omega) (by omega) (by omega) (by omega);obtain⟨z,r1,r2⟩:=aPo (a1:=(v:Int)) (a2:=(m:Int)) (K:=K) h.s1 (Nat.le_refl _) (by omega) (by omega) (by omega) (by omega) (by omega) aJw Y hs1;have sl:=(aOJ (v:=v) (m:=m) (C:=2*v+2*m) (g:=s1.g) (a2:=((2*v+2*m:Nat):Int)) (a3:=mp id m) (a5:=mp (kW s1.b) m) (a6:=z) (by omega) (by omega) (by omega)).1;refine⟨z,r1,?_⟩;have e0:(prc (cs1 v m) (mU v m A β) (aAX v m β) m)=(st0 v m A β).g:=rfl;have U:aAX v m β=(st0 v m A β).b:=rfl;rw[e0,U]at pr;rw[U]at mk;have e3:decide ((s1.g (2*v+2*m)).num.sign<0)=decide (s1.g (2*v+2*m)<0):=by rw[decide_eq_decide];exact aEE
  simp only[oC,aNn (show v≤32 by omega) (show m≤64 by omega) (show m<K by omega),oB,nF (rfl:(0:Int)=0),bG,mk,hvr,hgo,e1,e2,pr,r2,cC (f:=s1.g) (show 2*v+2*m<2*v+2*m+1 by omega),kN (bg1 (2*v+2*m) (by omega)) (show B≤1073741824 by omega),sl,e3]
 by_cases hC:s1.g (2*v+2*m)<0
 ·refine⟨⟨1,[],mp (aAY v s1.g) m,0⟩,⟨Or.inl ⟨rfl,rfl,rfl,aAY v s1.g,rfl,aRK I (hn1 rfl) hC,fun i x=>bg1 _ (by omega)⟩⟩,fun K X=>?_⟩;obtain⟨z,r1,r2⟩:=hW K X;rw[r2,decide_eq_true hC,bL]
 ·obtain⟨O,ha2⟩:=aI8 m 0 s1 (by omega) I (aRM I hC) (fun j hj=>by omega);have hx3:=aTX (γ:=γ) O;obtain⟨o2,u,hs4⟩:=aHp (en:=2*v+m) (f:=(2*v+2*m)^m) hx3 (by omega) (Nat.le_refl _);obtain⟨y,ha4,hn4,hc4⟩:=aGM (P:=Art v m) (show 2*v+m≤2*v+2*m by omega) (fun s r col hx ha hr hc hp=>aOG hx ha hr hc hp) _ _ _ _ hx3 ha2 hs4;obtain⟨bT2,_⟩:=h.s1 _ _ _ O.1;obtain⟨J,bg4⟩:=h.s2 _ _ _ y.1;have bX:∀i,i<v→Bd (2*B+1) (spt u.t u.b m v (2*v+2*m) i):=fun i x=>
   ((aFJ y.1.ti hB1 fun i x=>J i _ x (by omega)).sub (aFJ y.1.ti hB1 fun i x=>J i _ x (by omega))).mono (by omega)
  have bc2:∀k,Bd B (cs2 v γ k):=fun k=>by
   unfold cs2;split
   ·exact(hbγ k (by omega)).neg
   ·split
    ·exact hbγ _ (by omega)
    ·exact Bd.zero.mono hB1
  have hV:∀K,(2*v+2*m)^m+1000≤K→∃G,tE m (2*v+2*m+1) G id u.t∧oC K (xB v m A β γ)=bif(decide (0≤oi o2)) then((hU K (v:Int) (m:Int) ((2*v+2*m:Nat):Int) (oi o2) (mp id m) (mp u.g (2*v+2*m+1)) (mp (kW u.b) m) G).bind fun L=>some ((⟨2,mp (spt u.t u.b m v (2*v+2*m)) v,L,0⟩:k6),0)) else some ((⟨0,mp (spt u.t u.b m v (2*v+2*m)) v,mp (aAY v u.g) m,sm (fun k=>γ k*spt u.t u.b m v (2*v+2*m) k) v⟩:k6),0):=fun K X=>by
   obtain⟨z,r1,r2⟩:=hW K X;obtain⟨rs2,q1,q2⟩:=aEh (last:=2*v+m) (a1:=(v:Int)) (a2:=(m:Int)) (a6:=mp (kW s1.b) m) (aO _ _) h.s1 (by omega) (by omega) (by omega) (by omega) (show 2*v+2*m+1+m<K by omega) m 0 K s1 z (by omega) (by omega) r1 I.1;rw[Int.natCast_zero]at q2;have ha2':∀k:Nat,k<2*v+2*m→nB (xB v m A β γ) (k:Int)=some (cs2 v γ k):=fun k hk=>by
    unfold nB cs2;rw[hvr,hgo];by_cases e:k<v
    ·rw[dT (show(k:Int)<(v:Int) by omega),bL,cC (f:=γ) e,oB,yY (hbγ k e) (show B≤1073741824 by omega),oB,if_pos e]
    ·rw[dF (show¬(k:Int)<(v:Int) by omega),bG,e1,oB,if_neg e];by_cases e':k<2*v
     ·have ek:aV ((k:Int)-(v:Int))=some ((k-v:Nat):Int):=xH (m:=0) (by omega) (by omega);rw[dT (show(k:Int)<((2*v:Nat):Int) by omega),bL,ek,oB,cC (f:=γ) (show k-v<v by omega),oB,if_pos e']
     ·rw[dF (show¬(k:Int)<((2*v:Nat):Int) by omega),bG,if_neg e']
   have c2C:cs2 v γ (2*v+2*m)=0:=by unfold cs2;rw[if_neg (by omega),if_neg (by omega)]
   have pr:=aQU (a1:=(v:Int)) (a2:=(m:Int)) (a5:=mp (sdr (2*v+m) m 0 s1).g (2*v+2*m+1)) (K:=K) q1 ha2' c2C (fun i x=>by have:=O.1.lt i x;omega) (bT2.mono (show B≤40*B by omega)) (bp _ _ _ O.1.ti O.1.lt (fun k _=>bc2 k) bT2) (by omega) (by omega) (by omega) (by omega);obtain⟨G,u1,u2⟩:=aPo (s:=st2 v m γ (sdr (2*v+m) m 0 s1)) (a1:=(v:Int)) (a2:=(m:Int)) (K:=K) h.s2 (show 2*v+m≤2*v+2*m by omega) (by omega) (by omega) (by omega) (by omega) (by omega) q1 hx3 hs4;have e0:prc (cs2 v γ) (sdr (2*v+m) m 0 s1).t (sdr (2*v+m) m 0 s1).b m=(st2 v m γ (sdr (2*v+m) m 0 s1)).g:=rfl;have U:(st2 v m γ (sdr (2*v+m) m 0 s1)).b=(sdr (2*v+m) m 0 s1).b:=rfl;rw[e0]at pr;rw[U]at u2;have p2:=aUp (v:=v) (a1:=(m:Int)) (a4:=mp u.g (2*v+2*m+1)) (K:=K) y.1.ti u1 J hB1 (by omega) (by omega) (by omega) (by omega) (by omega);have sl:=(aOJ (v:=v) (m:=m) (C:=2*v+2*m) (g:=u.g) (a2:=((2*v+2*m:Nat):Int)) (a3:=mp id m) (a5:=mp (kW u.b) m) (a6:=G) (by omega) (by omega) (by omega)).2;have hd:v*(B+(2*B+1)+1)≤8*3000002:=Nat.mul_le_mul hv (by omega);have dt:=aEi (f:=γ) (e:=spt u.t u.b m v (2*v+2*m)) (w:=v) hbγ bX (by omega) (by omega) (show v<K by omega);refine⟨G,u1,?_⟩;rw[r2,decide_eq_false hC,bG];simp only[l9,q2,oB,lW,pr,u2,p2,sl,dt]
  cases o2 with
  |none=>
   refine⟨⟨0,mp (spt u.t u.b m v (2*v+2*m)) v,mp (aAY v u.g) m,sm (fun k=>γ k*spt u.t u.b m v (2*v+2*m) k) v⟩,⟨Or.inr (Or.inr ⟨rfl,_,_,rfl,rfl,rfl,aSc y ha4 (hn4 rfl),bX,fun i x=>bg4 _ (by omega)⟩)⟩,fun K X=>?_⟩;obtain⟨G,u1,u2⟩:=hV K X;rw[u2,dF (show¬0≤oi none by decide),bG]
  |some col=>
   obtain⟨c1,c2,c3⟩:=hc4 col rfl;have hb:∀i,i<m→u.b i≠col:=fun i x e=>by
    have:=y.1.gb i x;rw[e]at this;rw[this]at c2;exact absurd c2 Rat.lt_irrefl
   have bY:∀i,i<v→Bd (2*B+1) (sry u.t u.b m v col i):=fun i x=>
    ((aIa y.1.ti hb hB1 fun i x=>J i _ x (by omega)).sub (aIa y.1.ti hb hB1 fun i x=>J i _ x (by omega))).mono (by omega)
   refine⟨⟨2,mp (spt u.t u.b m v (2*v+2*m)) v,mp (sry u.t u.b m v col) v,0⟩,⟨Or.inr (Or.inl ⟨rfl,rfl,_,_,rfl,rfl,aRV y ha4 c1 c2 c3,bX,bY⟩)⟩,fun K X=>?_⟩;obtain⟨G,u1,u2⟩:=hV K X;have e4:oi (some col)=(col:Int):=rfl;have p1:=aT9 (v:=v) (a1:=(m:Int)) (a5:=mp u.g (2*v+2*m+1)) (K:=K) y.1.ti u1 (show col<2*v+2*m+1 by omega) hb J hB1 (by omega) (by omega) (by omega) (by omega) (by omega);rw[u2,e4,dT (show(0:Int)≤(col:Int) by omega),bL,p1,oB]
end
/-- A refutation. -/
structure Rfd (M:Nat→Nat→Rat) (q:Nat→Rat) (n:Nat) (y:Nat→Rat):Prop where
 y0:∀i,i<n→0≤y i
 le:∀k,k<n→sm (fun i=>y i*M i k) n≤0
 lt:sm (fun i=>q i*y i) n<0
structure Fsb (M:Nat→Nat→Rat) (q:Nat→Rat) (n:Nat) (z:Nat→Rat):Prop where
 z0:∀i,i<n→0≤z i
 w0:∀i,i<n→0≤wvl M q z n i
theorem aMG{f g:Nat→Rat}:∀{n:Nat},(∀i,i<n→f i≤g i)→sm f n≤sm g n
 |0,_=>Rat.le_refl
 |n+1,h=>by
  have e:=aMG (f:=f) (g:=g) (n:=n) fun i j=>h i (by omega)
  have k:=h n (by omega);show sm f n+f n≤sm g n+g n;grind
theorem aRp{M:Nat→Nat→Rat}{q y z:Nat→Rat}{n:Nat}(h:Rfd M q n y)(j:Fsb M q n z):False:=by
 have F:0≤sm (fun i=>y i*wvl M q z n i) n:=pR fun i s=>Rat.mul_nonneg (h.y0 i s) (j.w0 i s)
 have e:sm (fun i=>y i*wvl M q z n i) n=sm (fun k=>z k*sm (fun i=>y i*M i k) n) n+sm (fun i=>q i*y i) n:=by
  have u:sm (fun k=>z k*sm (fun i=>y i*M i k) n) n=sm (fun i=>sm (fun k=>y i*(M i k*z k)) n) n:=by
   rw[vV];refine aK fun k _=>?_
   rw[←mX];exact aK fun i _=>by grind
  rw[u,←aAS];refine aK fun i _=>?_
  unfold wvl;rw[mX];grind
 have x:sm (fun k=>z k*sm (fun i=>y i*M i k) n) n≤sm (fun _=>0) n:=aMG fun k t=>by
  have:=Rat.mul_nonneg (j.z0 k t) (show 0≤-(sm (fun i=>y i*M i k) n) by have:=h.le k t;grind);grind
 rw[dM (f:=fun _=>(0:Rat)) fun _ _=>rfl]at x;have:=h.lt;grind
theorem Sol.fsb{M:Nat→Nat→Rat}{q z w:Nat→Rat}{n:Nat}(h:Sol M q n z w):Fsb M q n z:=⟨h.z0,h.wis.w0⟩
def rfA(M:Nat→Nat→Rat)(n j i:Nat):Rat:=if j<n then(if i=j then -1 else 0) else if j=n then 1 else M i (j-n-1)
def rfB(n j:Nat):Rat:=if j=n then 1 else 0
def rfG(q:Nat→Rat)(i:Nat):Rat:=-(q i)
theorem aT1:(64*4000)^12<2^220:=by decide
theorem aSr:xZ 4000 ((1:Rat)*36):=⟨36,by decide+kernel,by decide⟩
theorem aUF:xZ 4000 ((-1:Rat)*36):=⟨-36,by decide+kernel,by decide⟩
theorem aST:xZ 4000 ((0:Rat)*36):=⟨0,by decide+kernel,by decide⟩
theorem aWf{m:Nat}(hm:m≤11):(64*4000)^(m+1)<2^220:=Nat.lt_of_le_of_lt (Nat.pow_le_pow_right (by decide) (by omega)) aT1
theorem aUP{M:Nat→Nat→Rat}{q:Nat→Rat}{n:Nat}(f:PB6 n M q)(k:n≤5):SPk n (2*n+1) 4000 220 (rfA M n) (rfB n) (rfG q) 36:=
 ⟨by decide,⟨36,by decide+kernel,by decide⟩,fun j i h e=>by
  unfold rfA;split
  ·split;exact aUF;exact aST
  ·split;exact aSr;exact f.1 i _ e (by omega),fun j h=>by unfold rfB;split;exact aSr;exact aST,fun i e=>by unfold rfG;rw[Rat.neg_mul];exact(show xZ 4000 (q i*36) from f.2 i e).sg,by omega,by omega,aWf (by omega),by omega,by omega⟩
theorem aUl{M:Nat→Nat→Rat}{n:Nat}{Y x:Nat→Rat}:sm (fun j=>Y j*sm (fun i=>rfA M n j i*x i) n) (2*n+1)=sm (fun j=>Y j*(-(x j))) n+Y n*sm x n+sm (fun k=>Y (n+1+k)*sm (fun i=>x i*M i k) n) n:=by
 rw[show 2*n+1=n+1+n by omega,uO];show sm _ n+Y n*sm (fun i=>rfA M n n i*x i) n+_=_;congr 1
 ·congr 1
  ·refine aK fun j e=>?_
   congr 1;rw[kO e fun i f hne=>by unfold rfA;rw[if_pos e,if_neg hne,Rat.zero_mul]];unfold rfA;rw[if_pos e,if_pos rfl];grind
  ·congr 1;refine aK fun i _=>?_
   unfold rfA;rw[if_neg (Nat.lt_irrefl n),if_pos rfl,Rat.one_mul]
 ·refine aK fun k _=>?_
  congr 1;refine aK fun i _=>?_
  unfold rfA;rw[if_neg (by omega),if_neg (by omega),show n+1+k-n-1=k by omega,Rat.mul_comm]
theorem aQk{A:Nat→Nat→Rat}{Y x γ:Nat→Rat}{v m:Nat}(h:∀k,k<v→sm (fun i=>Y i*A i k) m=γ k):sm (fun k=>γ k*x k) v=sm (fun i=>Y i*sm (fun k=>A i k*x k) v) m:=by
 have e:sm (fun k=>γ k*x k) v=sm (fun k=>sm (fun i=>Y i*(A i k*x k)) m) v:=aK fun k f=>by
  rw[←h k f,←y4];exact aK fun i _=>by grind
 rw[e,vV];exact aK fun i _=>by rw[mX]
theorem aMn{n:Nat}{Y:Nat→Rat}:sm (fun j=>Y j*rfB n j) (2*n+1)=Y n:=by
 rw[kO (p:=n) (by omega) fun j e hne=>by unfold rfB;rw[if_neg hne,Rat.mul_zero]];unfold rfB;rw[if_pos rfl,Rat.mul_one]
theorem aQ4{M:Nat→Nat→Rat}{n:Nat}{x:Nat→Rat}(h:∀j,j<2*n+1→sm (fun i=>rfA M n j i*x i) n≤rfB n j):(∀i,i<n→0≤x i)∧sm x n≤1∧∀k,k<n→sm (fun i=>x i*M i k) n≤0:=by
 refine⟨fun i q=>?_,?_,fun k s=>?_⟩
 ·have f:=h i (by omega);rw[kO q fun j t hne=>by unfold rfA;rw[if_pos q,if_neg hne,Rat.zero_mul]]at f;unfold rfA rfB at f;rw[if_pos q,if_pos rfl,if_neg (by omega)]at f;grind
 ·have f:=h n (by omega);have e:sm (fun i=>rfA M n n i*x i) n=sm x n:=aK fun i _=>by unfold rfA;rw[if_neg (Nat.lt_irrefl n),if_pos rfl,Rat.one_mul]
  rw[e]at f;unfold rfB at f;rw[if_pos rfl]at f;exact f
 ·have f:=h (n+1+k) (by omega);have e:sm (fun i=>rfA M n (n+1+k) i*x i) n=sm (fun i=>x i*M i k) n:=aK fun i _=>by
   unfold rfA;rw[if_neg (by omega),if_neg (by omega),show n+1+k-n-1=k by omega,Rat.mul_comm]
  rw[e]at f;unfold rfB at f;rw[if_neg (by omega)]at f;exact f
theorem aVJ{q X:Nat→Rat}{n:Nat}:sm (fun k=>rfG q k*X k) n=-(sm (fun i=>q i*X i) n):=by
 rw[←t8];exact aK fun i _=>by unfold rfG;grind
structure RAns (M:Nat→Nat→Rat) (q:Nat→Rat) (n:Nat) (r:List Rat×Int):Prop where
 is:(r.2=0∧∃X,r.1=mp X n∧Rfd M q n X∧∀i,i<n→Bd 500 (X i))∨(r.2=6∧r.1=[]∧∀y,¬Rfd M q n y)
theorem aRg{M:Nat→Nat→Rat}{q:Nat→Rat}{n:Nat}{a:k6}(h:aV9 n (2*n+1) 220 (rfA M n) (rfB n) (rfG q) a):∃X Y,a.kind=0∧a.x=mp X n∧a.value=sm (fun k=>rfG q k*X k) n∧aRO n (2*n+1) (rfA M n) (rfB n) (rfG q) X Y∧∀i,i<n→Bd 441 (X i):=by
 rcases h.is with⟨_,_,_,Y,_,s,_⟩|⟨_,_,X,Y,_,_,s,_,_⟩|⟨f,X,Y,y,_,z,u,G,_⟩
 ·have f:=s.lt;rw[aMn]at f;have:=s.y0 n (by omega);grind
 ·exfalso;have F:∀i,i<n→0≤Y i:=fun i t=>by
   have f:=s.ra i (by omega);rw[kO t fun j I hne=>by unfold rfA;rw[if_pos t,if_neg hne,Rat.zero_mul]]at f;unfold rfA at f;rw[if_pos t,if_pos rfl]at f;grind
  have f:=s.ra n (by omega);have e:sm (fun i=>rfA M n n i*Y i) n=sm Y n:=aK fun i _=>by unfold rfA;rw[if_neg (Nat.lt_irrefl n),if_pos rfl,Rat.one_mul]
  rw[e]at f;have y:sm Y n=0:=Rat.le_antisymm f (pR F);have z:=aGQ F y;have u:=s.up;rw[dM fun i t=>by rw[z i t,Rat.mul_zero]]at u;exact absurd u Rat.lt_irrefl
 ·exact⟨X,Y,f,y,z,u,G⟩
theorem aRt{M:Nat→Nat→Rat}{q:Nat→Rat}{n:Nat}{X Y:Nat→Rat}(h:aRO n (2*n+1) (rfA M n) (rfB n) (rfG q) X Y)(hv:sm (fun k=>rfG q k*X k) n≤0)(y:Nat→Rat):¬Rfd M q n y:=fun e=>by
 have s:=h.va;rw[aMn]at s;have t:=h.y0 n (by omega);have u:Y n=0:=by rw[s]at t ⊢;exact Rat.le_antisymm hv t
 have z:=aQk (x:=y) h.eq;rw[aUl,u,aVJ]at z;have F:sm (fun j=>Y j*(-(y j))) n≤sm (fun _=>0) n:=aMG fun j G=>by
  have:=Rat.mul_nonneg (h.y0 j (by omega)) (e.y0 j G);grind
 have I:sm (fun k=>Y (n+1+k)*sm (fun i=>y i*M i k) n) n≤sm (fun _=>0) n:=aMG fun k J=>by
  have:=Rat.mul_nonneg (h.y0 (n+1+k) (by omega)) (show 0≤-(sm (fun i=>y i*M i k) n) by have:=e.le k J;grind);grind
 rw[dM (f:=fun _=>(0:Rat)) fun _ _=>rfl]at F I;have:=e.lt;grind
theorem aM6{M:Nat→Nat→Rat}{a1:List Rat}{n j:Nat}(h:a1.length=n)(y:n≤1000)(u:j<n)(K:Nat):∀(t i k:Nat) (f:Nat→Rat),i+t=n→t<k→(∀l,l<i→f l=M l j)→iB K (mx M n n) a1 (j:Int) k (mp f n) (i:Int)=some (mp (fun l=>M l j) n)
 |0,i,k,f,z,q,s=>by
  obtain⟨x,rfl,_⟩:=aT q;simp only[iB,h,dF (show¬(i:Int)<(n:Int) by omega),bG];exact congrArg some (bV fun l F=>s l (by omega))
 |t+1,i,k,f,z,q,s=>by
  obtain⟨x,rfl,_⟩:=aT q;have hin:i<n:=by omega
  simp only[iB,h,dT (show(i:Int)<(n:Int) by omega),bL,yT (g:=M) (w:=n) hin,cC (f:=M i) u,cC (f:=f) hin,vA (f:=f) hin,oB,qG (i:=i) (by omega)];exact aM6 h y u K t (i+1) x (gN f i (M i j)) (by omega) (by omega) (fun l F=>by
   by_cases e:l=i
   ·rw[e,aN]
   ·rw[aZ e];exact s l (by omega))
theorem aL0{M:Nat→Nat→Rat}{a1:List Rat}{n:Nat}(h:a1.length=n)(q:n≤1000){K:Nat}(s:n<K):∀(t i k:Nat),i+t=n→t<k→fJ K (mx M n n) a1 k (mp (vE n (rfA M n) (rfB n)) (n+1+i)) (i:Int)=some (mp (vE n (rfA M n) (rfB n)) (2*n+1))
 |0,i,k,x,j=>by
  obtain⟨u,rfl,_⟩:=aT j;simp only[fJ,h,dF (show¬(i:Int)<(n:Int) by omega),bG];rw[show n+1+i=2*n+1 by omega]
 |t+1,i,k,x,j=>by
  obtain⟨u,rfl,_⟩:=aT j;have hin:i<n:=by omega
  have f:=aM6 (M:=M) h q hin K n 0 K (fun _=>0) (by omega) s (fun l G=>by omega);rw[Int.natCast_zero]at f;have e:(⟨mp (fun l=>M l i) n,0⟩:aS)=vE n (rfA M n) (rfB n) (n+1+i):=by
   unfold vE;have y:mp (rfA M n (n+1+i)) n=mp (fun l=>M l i) n:=bV fun l _=>by unfold rfA;rw[if_neg (by omega),if_neg (by omega),show n+1+i-n-1=i by omega]
   have F:rfB n (n+1+i)=0:=by unfold rfB;rw[if_neg (by omega)]
   rw[y,F]
  have ap:tC (mp (vE n (rfA M n) (rfB n)) (n+1+i)) [vE n (rfA M n) (rfB n) (n+1+i)]=some (mp (vE n (rfA M n) (rfB n)) (n+1+(i+1))):=apM (g:=vE n (rfA M n) (rfB n)) (i:=n+1+i) (by omega);simp only[fJ,h,dT (show(i:Int)<(n:Int) by omega),bL,aC9 (n:=n) (z:=(0:Rat)) (by omega),oB,f,o5,e,ap,qG (i:=i) (by omega)];exact aL0 h q s t (i+1) u (by omega) (by omega)
theorem aO4{a1:List Rat}{n:Nat}(e:a1.length=n)(j:n≤1000)(K:Nat):∀(t i k:Nat),i+t=n→t<k→iV K a1 k (mp (fun _=>(1:Rat)) i) (i:Int)=some (mp (fun _=>(1:Rat)) n)
 |0,i,k,q,f=>by
  obtain⟨h,rfl,_⟩:=aT f;have:i=n:=by omega
  subst this;simp only[iV,e,dF (show¬(i:Int)<(i:Int) by omega),bG]
 |t+1,i,k,q,f=>by
  obtain⟨h,rfl,_⟩:=aT f;have ap:tC (mp (fun _=>(1:Rat)) i) [1]=some (mp (fun _=>(1:Rat)) (i+1)):=apM (g:=fun _=>(1:Rat)) (by omega);simp only[iV,e,dT (show(i:Int)<(n:Int) by omega),bL,aD3,oB,ap,qG (i:=i) (by omega)];exact aO4 e j K t (i+1) h (by omega) (by omega)
theorem aOM{M:Nat→Nat→Rat}{q:Nat→Rat}{n B:Nat}(hq:∀i,i<n→Bd B (q i))(hB:B≤1073741824)(x:n≤1000)(K:Nat):∀(t i k:Nat) (f:Nat→Rat),i+t=n→t<k→(∀l,l<i→f l=rfG q l)→iU K (mp q n) k (mp (vE n (rfA M n) (rfB n)) i) (mp f n) (i:Int)=some (mp (vE n (rfA M n) (rfB n)) n,mp (rfG q) n)
 |0,i,k,f,y,h,j=>by
  obtain⟨s,rfl,_⟩:=aT h;have:i=n:=by omega
  subst this;simp only[iU,aO,dF (show¬(i:Int)<(i:Int) by omega),bG];rw[bV fun l u=>j l u]
 |t+1,i,k,f,y,h,j=>by
  obtain⟨s,rfl,_⟩:=aT h;have hin:i<n:=by omega
  have e:(⟨mp (gN (fun _=>(0:Rat)) i (-1)) n,0⟩:aS)=vE n (rfA M n) (rfB n) i:=by
   unfold vE;have F:mp (rfA M n i) n=mp (gN (fun _=>(0:Rat)) i (-1)) n:=bV fun l _=>by unfold rfA gN;rw[if_pos hin]
   have G:rfB n i=0:=by unfold rfB;rw[if_neg (by omega)]
   rw[F,G]
  have ap:tC (mp (vE n (rfA M n) (rfB n)) i) [vE n (rfA M n) (rfB n) i]=some (mp (vE n (rfA M n) (rfB n)) (i+1)):=apM (g:=vE n (rfA M n) (rfB n)) (by omega);simp only[iU,aO,dT (show(i:Int)<(n:Int) by omega),bL,cC (f:=q) hin,yY (hq i hin) hB,cC (f:=f) hin,vA (f:=f) hin,aC9 (n:=n) (z:=(0:Rat)) (by omega),aVw,cC (f:=fun _=>(0:Rat)) hin,vA (f:=fun _=>(0:Rat)) (v:=(-1:Rat)) hin,oB,e,ap,qG (i:=i) (by omega)];exact aOM hq hB x K t (i+1) s (gN f i (-(q i))) (by omega) (by omega) (fun l u=>by
   by_cases e:l=i
   ·rw[e,aN];rfl
   ·rw[aZ e];exact j l (by omega))
theorem aNX{M:Nat→Nat→Rat}{q:Nat→Rat}{n:Nat}(u:PB6 n M q)(F:n≤5)(h0:0<n):∃r,RAns M q n r∧∀K,(2*n+2*(2*n+1))^(2*n+1)+1000≤K→lM K (mx M n n) (mp q n)=some r:=by
 have hM:qX n n 12 M:=fun i c j hc=>y9 (u.1 i c j hc)
 have hq:∀i,i<n→Bd 12 (q i):=fun i j=>y9 (u.2 i j)
 obtain⟨a,J,L⟩:=aN9 (aUP u F);obtain⟨X,Y,k0,O,y,G,I⟩:=aRg J;have hd:n*(12+441+1)≤5*454:=Nat.mul_le_mul F (by omega);have vb:Bd 3000 a.value:=by
  rw[y];exact(aDg (f:=rfG q) (e:=X) (w:=n) (fun c hc=>(hq c hc).neg) I n (Nat.le_refl n)).mono (by omega)
 have main:∀K,(2*n+2*(2*n+1))^(2*n+1)+1000≤K→lM K (mx M n n) (mp q n)=bif(decide (a.value.num.sign≤0)) then some ([],6) else some (a.x,0):=fun K k=>by
  have v:=z9 hM hq (by omega) (show n≤32 by omega) (show 100≤K by omega);have s:=aOM (M:=M) hq (by omega) (show n≤1000 by omega) K n 0 K (fun _=>0) (by omega) (by omega) (fun l hl=>by omega);have t:=aO4 (aO q n) (show n≤1000 by omega) K n 0 K (by omega) (by omega);have h:=aL0 (M:=M) (aO q n) (show n≤1000 by omega) (show n<K by omega) n 0 K (by omega) (by omega);rw[wE,Int.natCast_zero]at s t;rw[Int.natCast_zero,Nat.add_zero]at h;have e:(⟨mp (fun _=>(1:Rat)) n,1⟩:aS)=vE n (rfA M n) (rfB n) n:=by
   unfold vE;have U:mp (rfA M n n) n=mp (fun _=>(1:Rat)) n:=bV fun l _=>by unfold rfA;rw[if_neg (Nat.lt_irrefl n),if_pos rfl]
   have V:rfB n n=1:=by unfold rfB;rw[if_pos rfl]
   rw[U,V]
  have ap:tC (mp (vE n (rfA M n) (rfB n)) n) [vE n (rfA M n) (rfB n) n]=some (mp (vE n (rfA M n) (rfB n)) (n+1)):=apM (g:=vE n (rfA M n) (rfB n)) (by omega);have hS:oC K (⟨(n:Int),mp (vE n (rfA M n) (rfB n)) (2*n+1),mp (rfG q) n⟩:aW)=some (a,0):=L K k;simp only[lM,v,oB,Bool.not_true,bG,aO,qF (show¬(n:Int)=0 by omega),aC9 (n:=n) (z:=(0:Rat)) (by omega),s,qA,aD3,t,p9,e,ap,h,oX,hS,nF (rfl:(0:Int)=0),nF k0,kN vb (show 3000≤1073741824 by omega)]
 by_cases hv:0<a.value
 ·refine⟨(a.x,0),⟨Or.inl ⟨rfl,X,O,?_,fun i j=>(I i j).mono (by omega)⟩⟩,fun K k=>?_⟩
  ·obtain⟨l1,l2,l3⟩:=aQ4 G.fe;refine⟨l1,l3,?_⟩;rw[y,aVJ]at hv;grind
  ·rw[main K k,decide_eq_false (fun hle=>absurd (aD2.2 hv) (Int.not_lt.2 hle)),bG]
 ·refine⟨([],6),⟨Or.inr ⟨rfl,rfl,aRt G (by rw[←y];exact Rat.not_lt.1 hv)⟩⟩,fun K k=>?_⟩;rw[main K k,decide_eq_true (aFN hv),bL]
theorem aKP{M:Nat→Nat→Rat}{q:Nat→Rat}{n B most:Nat}(hM:qX n n B M)(hq:∀i,i<n→Bd B (q i))(k:Sm n B (pH M q n))(hB:B≤200000000)(s:n≤32)(hm:most≤100000){K:Nat}(x:5000≤K)(y:most<K):
  fU K (mx M n n) (mp q n) (most:Int)=some (zI M q n most):=by
 have hng:=aIt hq (by omega) (show n≤1000 by omega) (show n<K by omega);have z:=k _ _ aLp;have s1:=aPp (q:=q) hM (by omega) (show n≤1000 by omega) (show n<K by omega) n 0 K (by omega) (by omega);have z1:mp (fun j=>((j:Nat):Int)) 0=[]:=rfl;have z2:mp (fun j:Nat=>j) 0=[]:=rfl;have F:mx (pH M q n) 0 (2*n+2)=[]:=rfl;simp only[Int.natCast_zero,z1,z2,F]at s1;have st:oI K (mx M n n) (mp q n)=some ((n:Int),mp (fun j=>j) n,mp (fun j=>((j:Nat):Int)) n,mx (pH M q n) n (2*n+2)):=by
  simp only[oI,s1,oB,oF,aO]
 have c1:aV (2*(n:Int))=some ((2*n:Nat):Int):=by rw[tI (by omega)];rfl
 by_cases hneg:ng q n 0=true
 ·have e:=aCO hneg;have hr:=aBz (T:=pH M q n) n 0 0 e (by omega);have t:=aP7 (bs:=mp (fun j=>((j:Nat):Int)) n) (aIs (T:=pH M q n)) z hB (show n≤1000 by omega) (show 2000≤K by omega) n 0 K 0 (by omega) (by omega) e;simp only[Int.natCast_zero]at t;have u:=aV1 (v6:=((n:Int),mp (fun j=>j) n,mp (fun j=>((j:Nat):Int)) n,mx (pH M q n) n (2*n+2))) rfl k hB (show n≤1000 by omega) hm x (most+1) 0 K _ _ _ _ _ _ (by omega) (by omega) (by omega) aIs (aKR (M:=M) (q:=q) hr);simp only[Int.natCast_zero]at u;simp only[fU,z9 hM hq (show B≤1073741824 by omega) s (show 100≤K by omega),oB,Bool.not_true,bG,dF (show¬(most:Int)<0 by omega),st,hng.1,hneg,aSJ,t,qL,c1,u,zI,bL]
 ·have hneg':ng q n 0=false:=by cases h:ng q n 0 with|true=>exact absurd h hneg|false=>rfl
  obtain⟨G,I⟩:=aOU (M:=M) (q:=q) (n:=n) n (Nat.le_refl _);have ps:=aMs (b:=fun j=>j) (aIs (T:=pH M q n) (n:=n) (w:=2*n+2)) (show n≤1000 by omega) (show 2000≤K by omega);rw[G,I,bV (f:=fun j=>if j<n then q j else 0) (g:=q) fun i J=>if_pos J]at ps;simp only[fU,z9 hM hq (show B≤1073741824 by omega) s (show 100≤K by omega),oB,Bool.not_true,bG,dF (show¬(most:Int)<0 by omega),st,hng.1,hneg',Bool.not_false,bL,ps,zI]
def rsB(M:Nat→Nat→Rat)(n:Nat)(y:Nat→Rat):Nat→Nat→Bool
 |0,_=>true
 |t+1,k=>bif decide (0<(sm (fun i=>y i*M i k) n).num.sign) then false else rsB M n y t (k+1)
def rfb(M:Nat→Nat→Rat)(q:Nat→Rat)(n:Nat)(y:Nat→Rat):Bool:=bif ng y n 0 then false else bif rsB M n y n 0 then decide ((sm (fun i=>q i*y i) n).num.sign<0) else false
theorem aJQ{M:Nat→Nat→Rat}{n:Nat}{y:Nat→Rat}:∀t k,(∀j,k≤j→j<k+t→sm (fun i=>y i*M i j) n≤0)→rsB M n y t k=true
 |0,_,_=>rfl
 |t+1,k,h=>by
  unfold rsB;rw[decide_eq_false (fun hp=>absurd (aD2.1 hp) (Rat.not_lt.2 (h k (Nat.le_refl _) (by omega)))),bG];exact aJQ t (k+1) fun j e f=>h j (by omega) (by omega)
theorem aOh{M:Nat→Nat→Rat}{q:Nat→Rat}{n:Nat}{y:Nat→Rat}(h:Rfd M q n y):rfb M q n y=true:=by
 unfold rfb;rw[aKW h.y0,bG,aJQ n 0 fun j _ e=>h.le j (by omega),bL,decide_eq_true (aEE.2 h.lt)]
theorem aOn{M:Nat→Nat→Rat}{y:Nat→Rat}{a1:List Rat}{n j B:Nat}(s:a1.length=n)(hM:qX n n B M)(q:∀i,i<n→Bd B (y i))(F:n≤8)(hB:B≤10000)(h:j<n)(K:Nat):∀(t i k:Nat),i+t=n→t<k→iE K (mx M n n) a1 (mp y n) (j:Int) k (sm (fun i=>y i*M i j) i) (i:Int)=some (sm (fun i=>y i*M i j) n)
 |0,i,k,u,x=>by
  obtain⟨z,rfl,_⟩:=aT x;have:i=n:=by omega
  subst this;simp only[iE,s,dF (show¬(i:Int)<(i:Int) by omega),bG]
 |t+1,i,k,u,x=>by
  obtain⟨z,rfl,_⟩:=aT x;have hin:i<n:=by omega
  have sb:=aDg (f:=y) (e:=fun i=>M i j) (w:=n) q (fun i u=>hM i j u h) i (by omega);have G:i*(B+B+1)≤8*20001:=Nat.mul_le_mul (by omega) (by omega);have e:sm (fun i=>y i*M i j) i+y i*M i j=sm (fun i=>y i*M i j) (i+1):=rfl;simp only[iE,s,dT (show(i:Int)<(n:Int) by omega),bL,cC (f:=y) hin,yT (g:=M) (w:=n) hin,cC (f:=M i) h,oB,yX (q i hin) (hM i j hin h) (by omega) (by omega),aBR sb ((q i hin).mul (hM i j hin h)) (by omega) (by omega),e,qG (i:=i) (by omega)];exact aOn s hM q F hB h K t (i+1) z (by omega) (by omega)
theorem aOC{M:Nat→Nat→Rat}{y:Nat→Rat}{a1:List Rat}{n B:Nat}(q:a1.length=n)(hM:qX n n B M)(s:∀i,i<n→Bd B (y i))(u:n≤8)(hB:B≤10000){K:Nat}(F:n<K):∀(t j k:Nat),j+t=n→t<k→fI K (mx M n n) a1 (mp y n) k (j:Int)=some (bif rsB M n y t j then .go () else .ret false)
 |0,j,k,I,x=>by
  obtain⟨G,rfl,_⟩:=aT x;simp only[fI,q,dF (show¬(j:Int)<(n:Int) by omega),bG,rsB,bL]
 |t+1,j,k,I,x=>by
  obtain⟨G,rfl,_⟩:=aT x;have hjn:j<n:=by omega
  have h:=aOn q hM s u hB hjn K n 0 K (by omega) F;have z:sm (fun i=>y i*M i j) 0=0:=rfl;rw[z,Int.natCast_zero]at h;have sb:=aDg (f:=y) (e:=fun i=>M i j) (w:=n) s (fun i J=>hM i j J hjn) n (Nat.le_refl _);have L:n*(B+B+1)≤8*20001:=Nat.mul_le_mul u (by omega);have ih:=aOC q hM s u hB F t (j+1) G (by omega) (by omega);simp only[fI,q,dT (show(j:Int)<(n:Int) by omega),bL,h,oB,pA,kN sb (by omega),qG (i:=j) (by omega),rsB];cases decide (0<(sm (fun i=>y i*M i j) n).num.sign) with
  |true=>simp only[bL,bG]
  |false=>simp only[bG];exact ih
theorem aPB{M:Nat→Nat→Rat}{y:Nat→Rat}{a1:List Rat}{n j B:Nat}(s:a1.length=n)(hM:qX n n B M)(q:∀i,i<n→Bd B (y i))(F:n≤8)(hB:B≤10000)(h:j<n)(K:Nat):∀(t i k:Nat),i+t=n→t<k→lG K (mx M n n) a1 (mp y n) (j:Int) k (sm (fun i=>y i*M i j) i) (i:Int)=some (sm (fun i=>y i*M i j) n)
 |0,i,k,u,x=>by
  obtain⟨z,rfl,_⟩:=aT x;have:i=n:=by omega
  subst this;simp only[lG,s,dF (show¬(i:Int)<(i:Int) by omega),bG]
 |t+1,i,k,u,x=>by
  obtain⟨z,rfl,_⟩:=aT x;have hin:i<n:=by omega
  have sb:=aDg (f:=y) (e:=fun i=>M i j) (w:=n) q (fun i u=>hM i j u h) i (by omega);have G:i*(B+B+1)≤8*20001:=Nat.mul_le_mul (by omega) (by omega);have e:sm (fun i=>y i*M i j) i+y i*M i j=sm (fun i=>y i*M i j) (i+1):=rfl;simp only[lG,s,dT (show(i:Int)<(n:Int) by omega),bL,cC (f:=y) hin,yT (g:=M) (w:=n) hin,cC (f:=M i) h,oB,yX (q i hin) (hM i j hin h) (by omega) (by omega),aBR sb ((q i hin).mul (hM i j hin h)) (by omega) (by omega),e,qG (i:=i) (by omega)];exact aPB s hM q F hB h K t (i+1) z (by omega) (by omega)
theorem aPn{M:Nat→Nat→Rat}{y:Nat→Rat}{a1:List Rat}{n B:Nat}(q:a1.length=n)(hM:qX n n B M)(s:∀i,i<n→Bd B (y i))(u:n≤8)(hB:B≤10000){K:Nat}(F:n<K):∀(t j k:Nat),j+t=n→t<k→lH K (mx M n n) a1 (mp y n) k (j:Int)=some (bif rsB M n y t j then .go () else .ret false)
 |0,j,k,I,x=>by
  obtain⟨G,rfl,_⟩:=aT x;simp only[lH,q,dF (show¬(j:Int)<(n:Int) by omega),bG,rsB,bL]
 |t+1,j,k,I,x=>by
  obtain⟨G,rfl,_⟩:=aT x;have hjn:j<n:=by omega
  have h:=aPB q hM s u hB hjn K n 0 K (by omega) F;have z:sm (fun i=>y i*M i j) 0=0:=rfl;rw[z,Int.natCast_zero]at h;have sb:=aDg (f:=y) (e:=fun i=>M i j) (w:=n) s (fun i J=>hM i j J hjn) n (Nat.le_refl _);have L:n*(B+B+1)≤8*20001:=Nat.mul_le_mul u (by omega);have ih:=aPn q hM s u hB F t (j+1) G (by omega) (by omega);simp only[lH,q,dT (show(j:Int)<(n:Int) by omega),bL,h,oB,wG,kN sb (by omega),qG (i:=j) (by omega),rsB];cases decide (0<(sm (fun i=>y i*M i j) n).num.sign) with
  |true=>simp only[bL,bG]
  |false=>simp only[bG];exact ih
theorem aK5{M:Nat→Nat→Rat}{q y:Nat→Rat}{n B:Nat}(hM:qX n n B M)(hq:∀i,i<n→Bd B (q i))(h:∀i,i<n→Bd B (y i))(j:n≤8)(hB:B≤10000){K:Nat}(k:100≤K):mV K (mx M n n) (mp q n) (mp y n)=some (rfb M q n y)∧yH K (mx M n n) (mp q n) (mp y n)=some (rfb M q n y):=by
 have v1:=z9 hM hq (by omega) (show n≤32 by omega) k;have v2:=aK9 hM hq (by omega) (show n≤32 by omega) k;have g1:=aDU (yK h) (by omega) (show(mp y n).length≤1000 by rw[aO];omega) (show(mp y n).length<K by rw[aO];omega);have u:=aFg (yK h) (by omega) (show(mp y n).length≤1000 by rw[aO];omega) (show(mp y n).length<K by rw[aO];omega);have ngy:=aIt h (by omega) (show n≤1000 by omega) (show n<K by omega);have s:=aOC (aO q n) hM h j hB (show n<K by omega) n 0 K (by omega) (by omega);have t:=aPn (aO q n) hM h j hB (show n<K by omega) n 0 K (by omega) (by omega);rw[Int.natCast_zero]at s t;have x:n*(B+B+1)≤8*20001:=Nat.mul_le_mul j (by omega);have d1:=aEi (f:=q) (e:=y) (w:=n) hq h (by omega) (by omega) (show n<K by omega);have d2:=(aQd (f:=q) (e:=y) (w:=n) hq h (by omega) (by omega) (show n<K by omega)).2;have sb:=aDg (f:=q) (e:=y) (w:=n) hq h n (Nat.le_refl _);unfold rfb;constructor
 ·simp only[mV,v1,oB,Bool.not_true,bG,aO,nF (rfl:(n:Int)=(n:Int)),g1,ngy.1];cases ng y n 0 with
  |true=>simp only[bL]
  |false=>
   simp only[bG,s,oB];cases rsB M n y n 0 with
   |true=>simp only[bL,o6,d1,oB,kN sb (show 1+n*(B+B+1)≤1073741824 by omega)]
   |false=>simp only[bG]
 ·simp only[yH,v2,oB,Bool.not_true,bG,aO,nF (rfl:(n:Int)=(n:Int)),u,ngy.2];cases ng y n 0 with
  |true=>simp only[bL]
  |false=>
   simp only[bG,t,oB];cases rsB M n y n 0 with
   |true=>simp only[bL,wF,d2,oB,kN sb (show 1+n*(B+B+1)≤1073741824 by omega)]
   |false=>simp only[bG]
theorem aKb{M:Nat→Nat→Rat}{q:Nat→Rat}{n:Nat}(e:PB6 n M q)(h:n≤6){m:Nat}(j:m≤800){K:Nat}(k:6000≤K):fU K (mx M n n) (mp q n) (m:Int)=some (aC2 M q n m):=by
 have hM:qX n n 200 M:=fun i c f hc=>(y9 (e.1 i c f hc)).mono (by omega)
 have hq:∀i,i<n→Bd 200 (q i):=fun i f=>(y9 (e.2 i f)).mono (by omega)
 unfold aC2;rw[if_neg (by omega)];exact aKP (most:=m) hM hq (aLV e h) (by omega) (by omega) (by omega) (by omega) (by omega)
theorem aSV{M:Nat→Nat→Rat}{n i B:Nat}(hM:qX n n B M)(hB:B≤1073741824)(x:n≤1000)(j:i<n)(K:Nat):∀(t k f:Nat),k+t=i→t<f→∃o,eE K (mx M n n) (i:Int) f (k:Int)=some o∧(o=.go ()∨o=.ret false)
 |0,k,f,y,q=>by
  obtain⟨s,rfl,_⟩:=aT q;exact⟨.go (),by simp only[eE,dF (show¬(k:Int)<(i:Int) by omega),bG],.inl rfl⟩
 |t+1,k,f,y,q=>by
  obtain⟨s,rfl,_⟩:=aT q;have h:k<n:=by omega
  obtain⟨o,z,F⟩:=aSV hM hB x j K t (k+1) s (by omega) (by omega);have e:eE K (mx M n n) (i:Int) (s+1) (k:Int)=bif !(decide (M i k=M k i)) then some (.ret false) else some o:=by
   simp only[eE,dT (show(k:Int)<(i:Int) by omega),bL,yT (g:=M) (w:=n) j,yT (g:=M) (w:=n) h,cC (f:=M i) h,cC (f:=M k) j,oB,aCm (hM i k j h) (hM k i h j) hB hB,qG (i:=k) (by omega),z]
  cases u:decide (M i k=M k i) with
  |true=>exact⟨o,by rw[e,u,Bool.not_true,bG],F⟩
  |false=>exact⟨.ret false,by rw[e,u,Bool.not_false,bL],.inr rfl⟩
theorem aTd{M:Nat→Nat→Rat}{n B:Nat}(hM:qX n n B M)(hB:B≤1073741824)(k:n≤1000){K:Nat}(s:n<K):∀(t i f:Nat),i+t=n→t<f→∃o:LR Bool Unit,dE K (mx M n n) f (i:Int)=some o
 |0,i,f,u,e=>by
  obtain⟨q,rfl,_⟩:=aT e;exact⟨.go (),by simp only[dE,iD,dF (show¬(i:Int)<(n:Int) by omega),bG]⟩
 |t+1,i,f,u,e=>by
  obtain⟨q,rfl,_⟩:=aT e;obtain⟨o,j,x⟩:=aSV hM hB k (show i<n by omega) K i 0 K (by omega) (by omega);obtain⟨y,h⟩:=aTd hM hB k s t (i+1) q (by omega) (by omega);rw[Int.natCast_zero]at j;rcases x with rfl|rfl
  ·exact⟨y,by simp only[dE,iD,dT (show(i:Int)<(n:Int) by omega),bL,j,oB,nH,qG (i:=i) (by omega),h]⟩
  ·exact⟨.ret false,by simp only[dE,iD,dT (show(i:Int)<(n:Int) by omega),bL,j,oB]⟩
theorem aTL{M:Nat→Nat→Rat}{n B:Nat}(hM:qX n n B M)(hB:B≤1073741824)(f:n≤1000){K:Nat}(e:n<K):∃b,kR K (mx M n n)=some b:=by
 obtain⟨o,h⟩:=aTd hM hB f e n 0 K (by omega) e;rw[Int.natCast_zero]at h;cases o with
 |go u=>exact⟨true,by simp only[kR,h,oB,nQ]⟩
 |ret b=>exact⟨b,by simp only[kR,h,oB]⟩
theorem aNU{a:Int}{m:List Int}(e:aAE (a::0::m)):∃n:Nat,n≤5∧∀K,100≤K→f0 K (a::0::m) 5=some (mx (mvn (a::0::m)) n n,mp (vw (a::0::m)) n):=by
 obtain⟨v,v1,v2,q⟩:=aFp e 0 (m:=6) (by omega);obtain⟨n,rfl⟩:∃n:Nat,v=n:=⟨v.toNat,by omega⟩;have h:cF (a::0::m) 1 5=some 0:=by
  have hlen:(((a::0::m).length:Nat):Int)=(m.length:Int)+2:=by simp;omega
  have hr:bR (a::0::m) 1=some 0:=rfl;have j:k9 0 5=some 0:=rfl;simp only[cF,dF (show¬(1:Int)<0 by omega),bG,hlen,dF (show¬(m.length:Int)+2≤1 by omega),hr,oB,j]
 have k:aV ((5:Int)+1)=some 6:=rfl;refine⟨n,by omega,fun K s=>?_⟩;have f:=aLG e (n:=n) (by omega) (K:=K) (by omega) n 0 K (by omega) (by omega);have z:mx (mvn (a::0::m)) 0 n=[]:=rfl;simp only[Int.natCast_zero,wE,z]at f;simp only[f0,k,oB,v1,h,f,cU,qT (rfl:(0:Int)=0),bL]
def sqM(g:Nat→Nat→Rat)(n i k:Nat):Rat:=xD g (tr g) n i k
theorem aOI{g:Nat→Nat→Rat}{n i k:Nat}:sqM g n i k=sm (fun c=>g i c*g k c) n:=by
 unfold sqM xD yR tr;exact aK fun c _=>Rat.mul_comm _ _
theorem aJG{g:Nat→Nat→Rat}{n:Nat}(z x:Nat→Rat):sm (fun i=>z i*sm (fun j=>sqM g n i j*x j) n) n=sm (fun c=>sm (fun i=>z i*g i c) n*sm (fun j=>g j c*x j) n) n:=by
 have e:∀i,i<n→z i*sm (fun j=>sqM g n i j*x j) n=sm (fun c=>(z i*g i c)*sm (fun j=>g j c*x j) n) n:=fun i k=>by
  have f:sm (fun j=>sqM g n i j*x j) n=sm (fun c=>g i c*sm (fun j=>g j c*x j) n) n:=by
   have h:sm (fun j=>sqM g n i j*x j) n=sm (fun j=>sm (fun c=>g i c*(g j c*x j)) n) n:=aK fun j _=>by
    rw[aOI,←y4];exact aK fun c _=>by grind
   rw[h,vV];exact aK fun c _=>by rw[mX]
  rw[f,←mX];exact aK fun c _=>by grind
 rw[aK e,vV];exact aK fun c _=>by rw[y4]
theorem aRw{g:Nat→Nat→Rat}{q:Nat→Rat}{n:Nat}(h:∀y,¬Rfd (sqM g n) q n y):PSG (sqM g n) q n:=by
 have sq:∀z:Nat→Rat,sm (fun i=>z i*sm (fun j=>sqM g n i j*z j) n) n=sm (fun c=>sm (fun i=>z i*g i c) n*sm (fun i=>z i*g i c) n) n:=fun z=>by
  rw[aJG];refine aK fun c _=>?_
  congr 1;exact aK fun i _=>Rat.mul_comm _ _
 refine⟨fun z=>by rw[sq];exact pR fun c _=>aCy _,fun z f x=>?_,fun z z0 f=>?_⟩
 ·rw[sq]at f;have s:=aSB f;rw[aJG];exact dM fun c hc=>by rw[s c hc,Rat.zero_mul]
 ·refine Rat.not_lt.1 fun hlt=>h z ⟨fun i _=>z0 i,fun k t=>?_,?_⟩
  ·have s:=f fun j=>if j=k then 1 else 0
   have e:sm (fun i=>z i*sm (fun j=>sqM g n i j*(if j=k then 1 else 0)) n) n=sm (fun i=>z i*sqM g n i k) n:=aK fun i _=>by
    rw[kO t fun j _ hne=>by rw[if_neg hne,Rat.mul_zero],if_pos rfl,Rat.mul_one]
   rw[e]at s;rw[s];exact Rat.le_refl
  ·have e:sm (fun i=>q i*z i) n=sm (fun i=>z i*q i) n:=aK fun i _=>Rat.mul_comm _ _
   rw[e];exact hlt
theorem aUh{M:Nat→Nat→Rat}{q:Nat→Rat}{n:Nat}(hs:∀i c,i<n→c<n→M i c=M c i)(hp:aFx M n):PSG M q n:=by
 refine⟨fun z=>aPT hs hp z,fun z e x=>?_,fun z z0 e=>?_⟩
 ·have f:=aEm hs hp e;exact dM fun i h=>by rw[f i h,Rat.zero_mul]
 ·have f:=aEm hs hp (e z);rw[dM fun i h=>by rw[f i h,Rat.zero_mul]];exact Rat.le_refl
theorem aKx{M:Nat→Nat→Rat}{q:Nat→Rat}{n:Nat}(j:n≤5):(aC2 M q n 800).2=0∨(aC2 M q n 800).2=15:=by
 have k:3^n≤3^5:=Nat.pow_le_pow_right (by decide) j;have e:aC2 M q n 800=zI M q n 800:=by unfold aC2;rw[if_neg (by omega)];rfl
 rw[e];by_cases f:(zI M q n 800).2=0
 ·exact .inl f
 ·rcases(aH4 f).2 with h|h
  ·exact .inr h
  ·exact absurd h (aN2 (by omega))
theorem aKl{M:Nat→Nat→Rat}{q:Nat→Rat}{n:Nat}(f:n≤5)(j:PSG M q n):(aC2 M q n 800).2=0:=by
 have e:aC2 M q n 800=zI M q n 800:=by unfold aC2;rw[if_neg (by omega)];rfl
 rcases aKx (M:=M) (q:=q) f with h|h
 ·exact h
 ·rw[e]at h;exact absurd h (aKe j)
theorem aUm{M:Nat→Nat→Rat}{q:Nat→Rat}{n:Nat}{a1:List Int}(hP:PB6 n M q)(hn:n≤5)(h1:aAE a1)(hl:a1.length≤1048576):∃K0,∀K,K0≤K→bK K a1 (mx M n n,mp q n)=some true:=by
 have u:aAE ((n:Int)::0::a1):=fun x t=>by
  rcases List.mem_cons.1 t with rfl|t
  ·omega
  ·rcases List.mem_cons.1 t with rfl|t
   ·omega
   ·exact h1 x t
 obtain⟨e,j,y⟩:=aNU u;have ap:tC [(n:Int),0] a1=some ((n:Int)::0::a1):=aBM (by show 2+a1.length≤_;omega);by_cases e1:e=n
 ·subst e1;by_cases e0:e=0
  ·refine⟨6000,fun K L=>?_⟩;simp only[bK,aO,ap,oB,y K (by omega),iD,nF (rfl:(e:Int)=(e:Int)),bG,qT (show(e:Int)=0 by omega),bL,aDI (K:=K) (by omega)]
  generalize hg:mvn ((e:Int)::0::a1)=g at *;have gdn:∀i c,dn 6 1 24 (g i c):=fun i c=>by rw[←hg];exact aGS u i c
  have gb:qX e e 12 g:=fun i c _ _=>y9 (aJF (gdn i c) (by omega))
  have gb':qX e e 12 (tr g):=fun i c s hc=>gb c i hc s
  have f:PB6 e (sqM g e) q:=⟨fun i k s hk=>by
   rw[aOI];exact(aPI (M:=576) e fun c _=>(gdn i c).mul (gdn k c)).mono (by omega),hP.2⟩
  obtain⟨r,hr,O⟩:=aNX f j (by omega);generalize hP1:(2*e+2*(2*e+1))^(2*e+1)=P1 at O;refine⟨P1+6000,fun K L=>?_⟩;have hc:Cok e e:=aEu _;have t1:=aRR (g:=g) hc (show e≤64 by omega) (show e≤64 by omega) (K:=K) (by omega);have hB:e*(12+12+1)≤5*25:=Nat.mul_le_mul j (by omega);have t2:=aRB gb gb' hc hc (by omega) (show e≤64 by omega) (show e≤64 by omega) (show e≤64 by omega) (K:=K) (by omega);have F:wB K (mx g e e) (mx (tr g) e e)=some (mx (sqM g e) e e,0):=t2;have U:=aKb (m:=800) f (show e≤6 by omega) (by omega) (show 6000≤K by omega);have e8:((800:Nat):Int)=800:=rfl;rw[e8]at U;have r1:=O K (by omega);have hM:qX e e 1000 (sqM g e):=fun i c s hc=>(y9 (f.1 i c s hc)).mono (by omega)
  have hq:∀i,i<e→Bd 1000 (q i):=fun i s=>(y9 (f.2 i s)).mono (by omega)
  have V:=aDI (K:=K) (by omega);simp only[bK,aO,ap,oB,y K (by omega),iD,nF (rfl:(e:Int)=(e:Int)),bG,qF (show¬(e:Int)=0 by omega),t1,F,nF (rfl:(0:Int)=0),U,r1];rcases aKx (M:=sqM g e) (q:=q) j with Y|G
  ·have r6:r.2=6:=by
    rcases aNh f (show e≤6 by omega) 800 with⟨h,_⟩|⟨_,z,w,_,_,hs,_⟩
    ·exact absurd Y h
    ·rcases hr.is with⟨_,X,_,I,_⟩|⟨h,_,_⟩
     ·exact(aRp I hs.fsb).elim
     ·exact h
   simp only[qF (show¬(aC2 (sqM g e) q e 800).2=15 by omega),bG,qT Y,bL,qT r6,V,oB]
  ·have t:∃X,r.2=0∧r.1=mp X e∧Rfd (sqM g e) q e X∧∀i,i<e→Bd 500 (X i):=by
    rcases hr.is with⟨h,X,h2,I,hb⟩|⟨_,_,h⟩
    ·exact⟨X,h,h2,I,hb⟩
    ·have:=aKl j (aRw h);omega
   obtain⟨X,x1,x2,x3,x4⟩:=t;have J:=(aK5 (K:=K) hM hq (fun i s=>(x4 i s).mono (by omega)) (by omega) (by omega) (by omega)).1;simp only[qT G,bL,qT x1,x2,J,aOh x3,oB,V]
 ·refine⟨6000,fun K L=>?_⟩;simp only[bK,aO,ap,oB,y K (by omega),iD,nT (show(e:Int)≠(n:Int) by omega),bL,aDI (K:=K) (by omega)]
theorem aBb{F a1:List Int}(O:aAE F)(U:aAE a1)(V:a1.length≤1048576):∃K,kJ K F a1=some true:=by
 obtain⟨n,M,q,u,j,X⟩:=aLx O (most:=5) (by omega) (by omega);obtain⟨f,Y⟩:=aUm j u U V;refine⟨f+6000,?_⟩;have k:=X (f+6000) (by omega);have s5:((5:Nat):Int)=5:=rfl;rw[s5]at k;have e:=Y (f+6000) (by omega);have hM:qX n n 12 M:=fun i c s hc=>y9 (j.1 i c s hc)
 have hq:∀i,i<n→Bd 12 (q i):=fun i s=>y9 (j.2 i s)
 have G:=aKb (m:=800) j (show n≤6 by omega) (by omega) (show 6000≤f+6000 by omega);have e8:((800:Nat):Int)=800:=rfl;rw[e8]at G;simp only[kJ,k,oB,G,aO];by_cases hn0:0<n
 ·obtain⟨b,hb⟩:=aTL hM (by omega) (show n≤1000 by omega) (show n<f+6000 by omega);simp only[dT (show(0:Int)<(n:Int) by omega),bL,hb,oB];cases b with
  |false=>simp only[bG,e]
  |true=>
   have h5:5^n*12≤5^5*12:=Nat.mul_le_mul_right 12 (Nat.pow_le_pow_right (by decide) u);obtain⟨o,o1,o2⟩:=aJH hM (by omega) (by omega) (show n≤64 by omega) (K:=f+6000) (by omega);simp only[bL,o1,oB];cases o with
   |false=>simp only[bG,e]
   |true=>
    obtain⟨I,J⟩:=o2.1 rfl;have hs:∀i c,i<n→c<n→M i c=M c i:=fun i c s hc=>by
     by_cases x:c<i
     ·exact I i s c x
     ·by_cases y:i<c
      ·exact(I c hc i y).symm
      ·rw[show i=c by omega]
    have t:=aKl u (aUh (q:=q) hs J);rcases aNh j (show n≤6 by omega) 800 with⟨h,_⟩|⟨_,z,w,z1,_,hsol,zb,_⟩
    ·exact absurd t h
    have L:=aOi (K:=f+6000) hM hq (show n≤6 by omega) (by omega) (by omega) (by omega);rw[aQD u hs J hsol]at L;have x:((([mp z n]:List (List Rat)).length:Nat):Int)=1:=rfl;have y:bR [mp z n] 0=some (mp z n):=rfl;have iJ:=aUH (K:=f+6000) (yK zb) (by omega) (by rw[aO];omega) (by rw[aO];omega);simp only[bL,L,oB,nF t,bG,nF (rfl:(0:Int)=0),x,nF (rfl:(1:Int)=1),y,z1,iJ,Bool.not_true,e]
 ·simp only[dF (show¬(0:Int)<(n:Int) by omega),bG,e]
end Go.Proofs.YtolfcbpgmfbgmaaGreat
