/- Texts of the proof, part 6: MS MN MP MU YC YD LD LS XL XF XA XU XV XW XX XY YE YF YG YH YI YJ YK YL YV WA WB WC WG YM XZ YN WK WL MD WN WQ WR WS WT. -/
import Derived.Test.YtolfcbpgmfbgmaaGreatZ5
set_option linter.unusedSimpArgs false
set_option linter.unusedVariables false
namespace Go.Proofs.YtolfcbpgmfbgmaaGreat
/-- The size of a sum of products. -/
theorem aJT {f e:Nat→Rat} {w b b':Nat} (hf:∀c,c<w→Bd b (f c)) (he:∀c,c<w→Bd b' (e c)):∀i,i≤w→Bd (1+i*(b+b'+1)) (sm (fun c=>f c*e c) i)
 |0,_=>Bd.zero.mono (by omega)
 |i+1,hi=>by
  simp only [sm]
  have hs:1+i*(b+b'+1)+(b+b')+1=1+(i+1)*(b+b'+1):=by rw [Nat.add_mul];omega
  exact((aJT hf he i (by omega)).add ((hf i (by omega)).mul (he i (by omega)))).mono (by omega)
def aHW (g:Nat→Nat→Rat) (v:Nat→Rat) (w i:Nat):Rat:=sm (fun c=>g i c*v c) w
theorem aLQ {f e:Nat→Rat} {w b:Nat} (hf:∀c,c<w→Bd b (f c)) (he:∀c,c<w→Bd b (e c)) (hb:b≤1000000) (hw:w≤100) (K:Nat):∀(t i k:Nat),i+t=w→t<k→Bd (1+i*(b+b+1)) (sm (fun c=>f c*e c) i)→Bd (1+w*(b+b+1)) (sm (fun c=>f c*e c) w)∧jU K (mp f w) (mp e w) k (sm (fun c=>f c*e c) i) (i:Int)=some (sm (fun c=>f c*e c) w)
 |0,i,k,hi,hk,ha=>by
  obtain⟨k',rfl,_⟩:=bJ hk
  have:i=w:=by omega
  subst this
  exact⟨ha,by simp only [jU,bB,dF (show¬(i:Int)<(i:Int) by omega),bR]⟩
 |t+1,i,k,hi,hk,ha=>by
  obtain⟨k',rfl,_⟩:=bJ hk
  have hx:=hf i (by omega)
  have hy:=he i (by omega)
  have hib:i*(b+b+1)≤100*2000001:=Nat.mul_le_mul (by omega) (by omega)
  have hs:1+i*(b+b+1)+(b+b)+1=1+(i+1)*(b+b+1):=by rw [Nat.add_mul];omega
  obtain⟨r1,r2⟩:=aLQ hf he hb hw K t (i+1) k' (by omega) (by omega) (by simp only [sm];exact(ha.add (hx.mul hy)).mono (by omega))
  refine⟨r1,?_⟩
  simp only [jU,bB,dT (show(i:Int)<(w:Int) by omega),bX,jP (f:=f) (show i<w by omega),jP (f:=e) (show i<w by omega),oB,aEb hx hy (by omega) (by omega),aAR ha (hx.mul hy) (by omega) (by omega),uZ (i:=i) (by omega)]
  exact r2
theorem aMG {f e:Nat→Rat} {w b:Nat} (hf:∀c,c<w→Bd b (f c)) (he:∀c,c<w→Bd b (e c)) (hb:b≤1000000) (hw:w≤100) {K:Nat} (hK:w<K):Bd (1+w*(b+b+1)) (sm (fun c=>f c*e c) w)∧kR K (mp f w) (mp e w)=some (sm (fun c=>f c*e c) w):=by
 obtain⟨r1,r2⟩:=aLQ hf he hb hw K w 0 K (by omega) hK (Bd.zero.mono (by omega))
 simp only [Int.natCast_zero,sm] at r2
 exact⟨r1,by simp only [kR,r2,oB,qX]⟩
end Go.Proofs.YtolfcbpgmfbgmaaGreat
set_option linter.unusedVariables false
namespace Go.Proofs.YtolfcbpgmfbgmaaGreat
/-- A vector and the right side. -/
def ext (x:Nat→Rat) (w c:Nat):Rat:=if c<w then x c else -1
end Go.Proofs.YtolfcbpgmfbgmaaGreat
set_option linter.unusedVariables false
namespace Go.Proofs.YtolfcbpgmfbgmaaGreat
/-- A turned matrix. -/
def tr (g:Nat→Nat→Rat) (i k:Nat):Rat:=g k i
def zS (g q:Nat→Nat→Rat) (w i j:Nat):Rat:=aHW (tr q) (g i) w j
end Go.Proofs.YtolfcbpgmfbgmaaGreat
set_option linter.unusedVariables false
namespace Go.Proofs.YtolfcbpgmfbgmaaGreat
theorem aQw:sgn 0=1:=rfl
def yK (i c:Nat):Rat:=if i=c then 1 else 0
theorem aD6:∀n,dt n yK=1
 |0=>rfl
 |n+1=>by
  rw [dt,zR (p:=0) (by omega) fun k _ hk=>by unfold yK;rw [if_neg (fun e=>hk e.symm)];grind]
  have e:dt n (mnr yK 0)=dt n yK:=uM fun i c _ _=>by
   unfold mnr yK skp
   rw [if_neg (Nat.not_lt_zero c)]
   by_cases h:i=c
   ·rw [if_pos h,if_pos (by omega)]
   ·rw [if_neg h,if_neg (by omega)]
  rw [e,aD6 n,aQw]
  unfold yK
  rw [if_pos rfl];grind
theorem aK1 {h k:Nat} {s:RS} (hs:RJ h k s):∀i,i<s.ps.length→i≤pat s.ps i
 |0,_=>Nat.zero_le _
 |i+1,hi=>by
  have:=aK1 hs i (by omega)
  have:=hs.inc i (i+1) (by omega) hi
  omega
theorem aHm {h k:Nat} {s:RS} (hs:RJ h k s):∀t i,i+t+1=s.ps.length→pat s.ps i+t<k
 |0,i,hi=>hs.pk i (by omega)
 |t+1,i,hi=>by
  have:=aHm hs t (i+1) (by omega)
  have:=hs.inc i (i+1) (by omega) (by omega)
  omega
theorem aKW {h k:Nat} {s:RS} (hs:RJ h k s) (hf:s.ps.length=k) {i:Nat} (hi:i<k):pat s.ps i=i:=by
 have h1:=aK1 hs i (by omega)
 have h2:=aHm hs (k-1-i) i (by omega)
 omega
theorem aDC {h k:Nat} {s:RS} (hs:RJ h k s) (hf:s.ps.length=k) {i c:Nat} (hi:i<h) (hc:c<k):s.g i c=if i=c then 1 else 0:=by
 have:=hs.one c i (by omega) hi
 rw [aKW hs hf hc] at this
 exact this
def aPJ (g:Nat→Nat→Rat) (n:Nat):Rat:=if(red g n n).ps.length=n then(red g n n).d else 0
theorem aPR {g:Nat→Nat→Rat} {n:Nat}:dt n g=aPJ g n:=by
 have hJ:=aJf (g:=g) (h:=n) n
 unfold aPJ
 rw [(aFc n).red0 (g:=g) n]
 split
 ·rename_i hf
  rw [uM (g':=yK) fun i c hi hc=>aDC hJ hf hi hc,aD6];grind
 ·rename_i hf
  have hlt:(red g n n).ps.length<n:=by have:=hJ.ph;omega
  rw [uM (g':=fun i c=>if c<n then(red g n n).g i c else 0) fun i c hi hc=>by rw [if_pos hc],(aFc n).zero (i:=n-1) (by omega) ?_]
  ·grind
  ·funext c
   split
   ·rename_i hc
    exact hJ.z (n-1) c (by omega) (by omega) hc
   ·rfl
theorem aMi (q:Nat→Nat→Rat) (n w:Nat):Alt n fun g=>dt n (zS g q w):=by
 have eu:∀(g:Nat→Nat→Rat) (f:Nat→Rat) (i:Nat),zS (nP g i f) q w=nP (zS g q w) i (fun j=>aHW (tr q) f w j):=by
  intro g f i
  funext j c
  unfold zS
  by_cases h:j=i
  ·subst h;rw [bG,bG]
  ·rw [cP h,cP h]
 refine⟨fun g g' h=>uM fun i c hi _=>?_,fun g u v a i hi=>?_,fun g i j hi hj hne=>?_⟩
 ·unfold zS;rw [h i hi]
 ·show dt n _=dt n _-a*dt n _
  rw [eu,eu,eu,←aIO hi]
  congr 2
  funext j
  unfold aHW
  rw [←aDD]
  exact eD fun c _=>by grind
 ·exact(aFc n).swap (zS g q w) i j hi hj hne
theorem aL8 {g q:Nat→Nat→Rat} {n:Nat}:dt n (zS g q n)=dt n g*dt n q:=by
 have hJ:=aJf (g:=g) (h:=n) n
 have hm:dt n (zS g q n)=(red g n n).d*dt n (zS (red g n n).g q n):=(aMi q n n).red0 (g:=g) n
 rw [hm,aPR (g:=g)]
 unfold aPJ
 split
 ·rename_i hf
  rw [uM (g:=zS (red g n n).g q n) (g':=q) fun i c hi hc=>?_]
  unfold zS aHW tr
  rw [zR (p:=i) hi fun j hj hne=>by rw [aDC hJ hf hi hj,if_neg (fun e=>hne e.symm)];grind]
  rw [aDC hJ hf hi hi,if_pos rfl];grind
 ·rename_i hf
  have hlt:(red g n n).ps.length<n:=by have:=hJ.ph;omega
  rw [(aFc n).zero (g:=zS (red g n n).g q n) (i:=n-1) (by omega) (by
   funext c
   unfold zS aHW
   exact aAO fun j hj=>by rw [hJ.z (n-1) j (by omega) (by omega) hj];grind)]
  grind
end Go.Proofs.YtolfcbpgmfbgmaaGreat
set_option linter.unusedVariables false
namespace Go.Proofs.YtolfcbpgmfbgmaaGreat
/-- The unit matrix with one column replaced. -/
def aHs (i:Nat) (x:Nat→Rat) (r c:Nat):Rat:=if c=i then x r else if r=c then 1 else 0
theorem aNF {n i:Nat} (hi:i<n) (x:Nat→Rat):dt n (aHs i x)=x i:=by
 have a:=aFc n
 have e1:aHs i x=nP (aHs i x) i (fun c=>x i*yK i c):=by
  funext r c
  by_cases h:r=i
  ·subst h
   rw [bG]
   unfold aHs yK
   by_cases h2:c=r
   ·rw [if_pos h2,if_pos h2.symm,Rat.mul_one]
   ·rw [if_neg h2,if_neg (show¬r=c from fun e=>h2 e.symm),Rat.mul_zero]
  ·rw [cP h]
 have e2:dt n (nP (aHs i x) i (yK i))=1:=by
  rw [←a.elm0 (g:=nP (aHs i x) i (yK i)) (n:=i) (k:=i) hi n (Nat.le_refl n),←aD6 n]
  refine uM fun r c hr hc=>?_
  unfold elm
  by_cases h:r=i
  ·subst h
   rw [if_neg (fun h2=>h2.2 rfl),bG]
  ·rw [if_pos ⟨hr,h⟩,cP h,bG]
   unfold aHs yK
   rw [if_pos rfl]
   by_cases h2:c=i
   ·rw [if_pos h2,if_pos h2.symm,Rat.mul_one,Rat.sub_self,if_neg (by omega)]
   ·rw [if_neg h2,if_neg (show¬i=c from fun e=>h2 e.symm),Rat.mul_zero,Rat.sub_eq_add_neg,Rat.neg_zero,Rat.add_zero]
 rw [e1,a.scale hi,e2,Rat.mul_one]
def aIQ (Z:Nat→Nat→Rat) (b:Nat→Nat) (r j:Nat):Rat:=Z r (b j)
def aFo (Z:Nat→Nat→Rat) (b:Nat→Nat) (i k:Nat) (r j:Nat):Rat:=if j=i then Z r k else Z r (b j)
theorem aPC {n w:Nat} {E Z T:Nat→Nat→Rat} {b:Nat→Nat} (hT:∀i c,i<n→c<w→T i c=zS E Z n i c) (hb:∀j,j<n→b j<w) (hu:∀i j,i<n→j<n→T i (b j)=if i=j then 1 else 0) {i k:Nat} (hi:i<n) (hk:k<w):dt n (aIQ Z b)≠0∧T i k=dt n (aFo Z b i k)/dt n (aIQ Z b):=by
 have h1:dt n E*dt n (aIQ Z b)=1:=by
  rw [←aL8,←aD6 n]
  refine uM fun r c hr hc=>?_
  show zS E Z n r (b c)=_
  rw [←hT r (b c) hr (hb c hc),hu r c hr hc];rfl
 have h2:dt n E*dt n (aFo Z b i k)=T i k:=by
  rw [←aL8,←aNF hi (fun r=>T r k)]
  refine uM fun r c hr hc=>?_
  unfold aHs
  by_cases h:c=i
  ·rw [if_pos h]
   show _=T r k
   rw [hT r k hr hk]
   unfold zS aHW tr aFo
   simp [h]
  ·rw [if_neg h,←hu r c hr hc,hT r (b c) hr (hb c hc)]
   unfold zS aHW tr aFo
   simp [h]
 have hne:dt n (aIQ Z b)≠0:=fun e=>by rw [e,Rat.mul_zero] at h1;exact absurd h1 (by decide)
 refine⟨hne,?_⟩
 rw [←h2,Rat.div_def]
 have:dt n E=(dt n (aIQ Z b))⁻¹:=by
  have h3:=congrArg (·*(dt n (aIQ Z b))⁻¹) h1
  simp only [Rat.mul_assoc,Rat.mul_inv_cancel _ hne,Rat.mul_one,Rat.one_mul] at h3
  exact h3
 rw [this,Rat.mul_comm]
def isZ (M:Nat) (x:Rat):Prop:=∃q:Int,x=(q:Rat)∧q.natAbs≤M
def fM (M:Nat):Nat→Nat
 |0=>1
 |n+1=>(n+1)*(M*fM M n)
theorem isZ.mono {M N:Nat} {x:Rat} (h:isZ M x) (hn:M≤N):isZ N x:=by
 obtain⟨q,h1,h2⟩:=h
 exact⟨q,h1,by omega⟩
theorem isZ.add {M N:Nat} {x y:Rat} (h:isZ M x) (k:isZ N y):isZ (M+N) (x+y):=by
 obtain⟨q,h1,h2⟩:=h
 obtain⟨p,k1,k2⟩:=k
 exact⟨q+p,by rw [h1,k1,Rat.intCast_add],by omega⟩
theorem isZ.mul {M N:Nat} {x y:Rat} (h:isZ M x) (k:isZ N y):isZ (M*N) (x*y):=by
 obtain⟨q,h1,h2⟩:=h
 obtain⟨p,k1,k2⟩:=k
 exact⟨q*p,by rw [h1,k1,Rat.intCast_mul],by rw [Int.natAbs_mul];exact Nat.mul_le_mul h2 k2⟩
theorem isZ.zero:isZ 0 0:=⟨0,rfl,Nat.le_refl _⟩
theorem aP8 (k:Nat):isZ 1 (sgn k):=by
 unfold sgn
 split
 ·exact⟨1,rfl,by decide⟩
 ·exact⟨-1,rfl,by decide⟩
theorem aP2 {f:Nat→Rat} {M:Nat}:∀n,(∀i,i<n→isZ M (f i))→isZ (n*M) (sm f n)
 |0,_=>by rw [Nat.zero_mul];exact isZ.zero
 |n+1,h=>by
  have:=(aP2 n fun i hi=>h i (by omega)).add (h n (by omega))
  rw [Nat.succ_mul];exact this
theorem aPj {M:Nat}:∀(n:Nat) (g:Nat→Nat→Rat),(∀i c,i<n→c<n→isZ M (g i c))→isZ (fM M n) (dt n g)
 |0,g,h=>⟨1,rfl,Nat.le_refl _⟩
 |n+1,g,h=>aP2 (n+1) fun k hk=>by
  have h1:=aPj n (mnr g k) fun i c hi hc=>h (i+1) (skp k c) (by omega) (aK4 hc)
  have h2:=(aP8 k).mul ((h 0 k (by omega) hk).mul h1)
  rw [Nat.one_mul] at h2
  first|exact h2|(rw [Rat.mul_assoc];exact h2)
theorem aKJ {n w M k:Nat} {E Z T:Nat→Nat→Rat} {b:Nat→Nat} (hT:∀i c,i<n→c<w→T i c=zS E Z n i c) (hb:∀j,j<n→b j<w) (hu:∀i j,i<n→j<n→T i (b j)=if i=j then 1 else 0) (hZ:∀i c,i<n→c<w→isZ M (Z i c)) (hM:fM M n<2^k):z6 n w k T:=fun i c hi hc=>by
 obtain⟨h1,h2⟩:=aPC hT hb hu hi hc
 obtain⟨p,p1,p2⟩:=aPj n (aFo Z b i c) fun r j hr hj=>by
  unfold aFo
  split
  ·exact hZ r c hr hc
  ·exact hZ r (b j) hr (hb j hj)
 obtain⟨q,q1,q2⟩:=aPj n (aIQ Z b) fun r j hr hj=>hZ r (b j) hr (hb j hj)
 rw [h2,p1,q1]
 refine Bd.of (fun e=>h1 (by rw [q1,e];rfl)) (Nat.lt_of_le_of_lt p2 hM) (Nat.lt_of_le_of_lt q2 hM)
end Go.Proofs.YtolfcbpgmfbgmaaGreat
set_option linter.unusedVariables false
namespace Go.Proofs.YtolfcbpgmfbgmaaGreat
/-- A tableau: its rows are combinations of those of Z, and the columns of the basic variables are those of the unit matrix. -/
structure TI (n w:Nat) (Z T:Nat→Nat→Rat) (b:Nat→Nat):Prop where
 ex:∃E:Nat→Nat→Rat,∀i c,i<n→c<w→T i c=zS E Z n i c
 lt:∀j,j<n→b j<w
 un:∀i j,i<n→j<n→T i (b j)=if i=j then 1 else 0
def sO (T:Nat→Nat→Rat) (r c i k:Nat):Rat:=if i=r then T r k/T r c else T i k-T i c*(T r k/T r c)
theorem xS {E Z:Nat→Nat→Rat} {n i k:Nat}:zS E Z n i k=sm (fun j=>Z j k*E i j) n:=by
 unfold zS aHW tr
 first|rfl|(refine eD fun j _=>?_;first|rfl|exact Rat.mul_comm _ _)
theorem TI.pivot {n w:Nat} {Z T:Nat→Nat→Rat} {b:Nat→Nat} (h:TI n w Z T b) {r c:Nat} (hr:r<n) (hc:c<w) (hp:T r c≠0):TI n w Z (sO T r c) (nP b r c):=by
 obtain⟨⟨E,hE⟩,hb,hu⟩:=h
 refine⟨⟨fun i j=>if i=r then E r j/T r c else E i j-T i c*(E r j/T r c),fun i k hi hk=>?_⟩,fun j hj=>?_,fun i j hi hj=>?_⟩
 ·rw [xS]
  have e1:T r k/T r c=sm (fun j=>Z j k*(E r j/T r c)) n:=by
   rw [hE r k hr hk,xS,Rat.div_def,Rat.mul_comm,←xQ]
   refine eD fun j _=>?_
   rw [Rat.div_def,Rat.mul_comm,Rat.mul_assoc]
  unfold sO
  by_cases e:i=r
  ·rw [if_pos e,e1]
   exact eD fun j _=>by rw [if_pos e]
  ·rw [if_neg e,hE i k hi hk,xS,e1,←xQ,Rat.sub_eq_add_neg,←aEu,←aGZ]
   refine eD fun j _=>?_
   rw [if_neg e,Rat.sub_eq_add_neg,Rat.mul_add,Rat.mul_neg,←Rat.mul_assoc,←Rat.mul_assoc,Rat.mul_comm (T i c)]
 ·by_cases e:j=r
  ·rw [e,bG];exact hc
  ·rw [cP e];exact hb j hj
 ·unfold sO
  by_cases e:j=r
  ·rw [e,bG,Rat.div_def,Rat.mul_inv_cancel _ hp]
   by_cases e2:i=r
   ·rw [if_pos e2,if_pos e2]
   ·rw [if_neg e2,if_neg e2,Rat.mul_one,Rat.sub_self]
  ·have h0:T r (b j)=0:=by rw [hu r j hr hj,if_neg fun h=>e h.symm]
   rw [cP e,h0,Rat.div_def,Rat.zero_mul]
   by_cases e2:i=r
   ·rw [if_pos e2,if_neg (by omega)]
   ·rw [if_neg e2,Rat.mul_zero,Rat.sub_eq_add_neg,Rat.neg_zero,Rat.add_zero]
    exact hu i j hi hj
theorem TI.start {n w:Nat} {Z:Nat→Nat→Rat} (hw:n≤w) (hz:∀i j,i<n→j<n→Z i j=if i=j then 1 else 0):TI n w Z Z (fun j=>j):=
 ⟨⟨yK,fun i c hi hc=>by
  rw [xS]
  have:sm (fun j=>Z j c*yK i j) n=sm (fun j=>if j=i then Z i c else 0) n:=eD fun j _=>by
   unfold yK
   by_cases e:j=i
   ·rw [if_pos e,e,if_pos rfl,Rat.mul_one]
   ·rw [if_neg e,if_neg (fun h=>e h.symm),Rat.mul_zero]
  rw [this]
  have key:∀m,m≤n→sm (fun j=>if j=i then Z i c else 0) m=if i<m then Z i c else 0:=by
   intro m
   induction m with
   |zero=>intro _;rw [if_neg (by omega)];rfl
   |succ m ih=>
    intro hm
    show sm _ m+(if m=i then Z i c else 0)=_
    rw [ih (by omega)]
    by_cases e:m=i
    ·rw [if_pos e,if_neg (by omega),if_pos (by omega),Rat.zero_add]
    ·rw [if_neg e,Rat.add_zero]
     by_cases e2:i<m
     ·rw [if_pos e2,if_pos (by omega)]
     ·rw [if_neg e2,if_neg (by omega)]
  rw [key n (Nat.le_refl n),if_pos hi]⟩,fun j hj=>by omega,fun i j hi hj=>hz i j hi hj⟩
theorem aOo {M:Nat}:∀n,n≤64→fM M n≤(64*M)^n
 |0,_=>Nat.le_refl _
 |n+1,h=>by
  show(n+1)*(M*fM M n)≤_
  rw [Nat.pow_succ,Nat.mul_comm ((64*M)^n),←Nat.mul_assoc]
  exact Nat.mul_le_mul (Nat.mul_le_mul_right M h) (aOo n (by omega))
theorem TI.scale {n w:Nat} {Z T:Nat→Nat→Rat} {b:Nat→Nat} (h:TI n w Z T b) {D:Rat} (hD:D≠0):TI n w (fun i c=>Z i c*D) T b:=by
 obtain⟨⟨E,hE⟩,hb,hu⟩:=h
 refine⟨⟨fun i j=>E i j/D,fun i c hi hc=>?_⟩,hb,hu⟩
 rw [hE i c hi hc,xS,xS]
 refine eD fun j _=>?_
 rw [Rat.div_def,Rat.mul_comm (E i j),Rat.mul_assoc,←Rat.mul_assoc D,Rat.mul_inv_cancel _ hD,Rat.one_mul]
theorem TI.bd {n w M k:Nat} {Z T:Nat→Nat→Rat} {b:Nat→Nat} {D:Rat} (h:TI n w Z T b) (hD:D≠0) (hZ:∀i c,i<n→c<w→isZ M (Z i c*D)) (hn:n≤64) (hM:(64*M)^n<2^k):z6 n w k T:=by
 obtain⟨⟨E,hE⟩,hb,hu⟩:=h.scale hD
 exact aKJ hE hb hu hZ (Nat.lt_of_le_of_lt (aOo n hn) hM)
end Go.Proofs.YtolfcbpgmfbgmaaGreat
set_option linter.unusedVariables false
namespace Go.Proofs.YtolfcbpgmfbgmaaGreat
end Go.Proofs.YtolfcbpgmfbgmaaGreat
set_option linter.unusedVariables false
namespace Go.Proofs.YtolfcbpgmfbgmaaGreat
end Go.Proofs.YtolfcbpgmfbgmaaGreat
set_option linter.unusedVariables false
namespace Go.Proofs.YtolfcbpgmfbgmaaGreat
end Go.Proofs.YtolfcbpgmfbgmaaGreat
set_option linter.unusedVariables false
namespace Go.Proofs.YtolfcbpgmfbgmaaGreat
theorem aJ5 {m:Nat} {a:Rat} (ha:Bd m a) (hm:m≤1073741824):aKj a=some true:=by unfold aKj;rw [ha.qs hm];rfl
end Go.Proofs.YtolfcbpgmfbgmaaGreat
set_option linter.unusedVariables false
namespace Go.Proofs.YtolfcbpgmfbgmaaGreat
end Go.Proofs.YtolfcbpgmfbgmaaGreat
set_option linter.unusedVariables false
namespace Go.Proofs.YtolfcbpgmfbgmaaGreat
end Go.Proofs.YtolfcbpgmfbgmaaGreat
set_option linter.unusedVariables false
namespace Go.Proofs.YtolfcbpgmfbgmaaGreat
end Go.Proofs.YtolfcbpgmfbgmaaGreat
set_option linter.unusedVariables false
namespace Go.Proofs.YtolfcbpgmfbgmaaGreat
def z0:Nat→Rat:=fun _=>0
theorem aL5:qof 1 1=some 1:=by rw [aE7 (by omega) (by omega),aLD]
end Go.Proofs.YtolfcbpgmfbgmaaGreat
set_option linter.unusedVariables false
namespace Go.Proofs.YtolfcbpgmfbgmaaGreat
def ord (N:Nat):List Nat:=mp (fun i=>i+1) N
end Go.Proofs.YtolfcbpgmfbgmaaGreat
set_option linter.unusedVariables false
namespace Go.Proofs.YtolfcbpgmfbgmaaGreat
theorem aDy:Bd 8 (1:Rat):=(show Bd 1 (1:Rat) by constructor<;>decide).mono (by omega)
end Go.Proofs.YtolfcbpgmfbgmaaGreat
set_option linter.unusedVariables false
namespace Go.Proofs.YtolfcbpgmfbgmaaGreat
/-- A number that is whole when it is multiplied so often. -/
def dn (D e M:Nat) (x:Rat):Prop:=isZ M (x*((D^e:Nat):Rat))
theorem dn.mono {D e M N:Nat} {x:Rat} (h:dn D e M x) (hn:M≤N):dn D e N x:=isZ.mono h hn
theorem dn.zero {D e M:Nat}:dn D e M 0:=⟨0,by rw [Rat.zero_mul];rfl,Nat.zero_le _⟩
theorem dn.add {D e M N:Nat} {x y:Rat} (h:dn D e M x) (k:dn D e N y):dn D e (M+N) (x+y):=by
 unfold dn;rw [Rat.add_mul];exact isZ.add h k
theorem dn.neg {D e M:Nat} {x:Rat} (h:dn D e M x):dn D e M (-x):=by
 obtain⟨q,h1,h2⟩:=h
 exact⟨-q,by rw [Rat.neg_mul,h1,Rat.intCast_neg],by omega⟩
theorem dn.mul {D e e' M N:Nat} {x y:Rat} (h:dn D e M x) (k:dn D e' N y):dn D (e+e') (M*N) (x*y):=by
 have:=isZ.mul h k
 unfold dn
 rw [Nat.pow_add,Rat.natCast_mul]
 have e2:x*y*(((D^e:Nat):Rat)*((D^e':Nat):Rat))=x*((D^e:Nat):Rat)*(y*((D^e':Nat):Rat)):=by
  rw [Rat.mul_assoc,←Rat.mul_assoc y,Rat.mul_comm y,Rat.mul_assoc ((D^e:Nat):Rat),←Rat.mul_assoc]
 rw [e2];exact this
theorem dn.up {D e M:Nat} {x:Rat} (h:dn D e M x):dn D (e+1) (M*D) x:=by
 have h1:dn D 1 D 1:=⟨(D:Int),by rw [Rat.one_mul,Nat.pow_one];rfl,by simp⟩
 have:=h.mul h1
 rwa [Rat.mul_one] at this
end Go.Proofs.YtolfcbpgmfbgmaaGreat
set_option linter.unusedVariables false
namespace Go.Proofs.YtolfcbpgmfbgmaaGreat
/-- The first tableau. -/
def uL (M:Nat→Nat→Rat) (q:Nat→Rat) (n i c:Nat):Rat:=
 if c<n then(if i=c then 1 else 0) else if c<2*n then -(M i (c-n)) else if c=2*n then -1 else q i
theorem aLL {M:Nat→Nat→Rat} {q:Nat→Rat} {n:Nat}:TI n (2*n+2) (uL M q n) (uL M q n) (fun j=>j):=TI.start (by omega) fun i j hi hj=>if_pos hj
end Go.Proofs.YtolfcbpgmfbgmaaGreat
set_option linter.unusedVariables false
namespace Go.Proofs.YtolfcbpgmfbgmaaGreat
/-- The rows of a tableau as they lie. -/
structure aAA (n w:Nat) (rs:List (List Rat)) (od:Nat→Nat) (T:Nat→Nat→Rat):Prop where
 lt:∀i,i<n→od i<rs.length
 inj:∀i j,i<n→j<n→od i=od j→i=j
 row:∀i,i<n→rs.getD (od i) []=mp (T i) w
def nI (n j:Nat):Nat:=if j=0 then 2*n+1 else j-1
def lx (T:Nat→Nat→Rat) (n i:Nat) (c:Rat) (k:Nat) (d:Rat):Nat→Nat→Bool
 |0,_=>false
 |t+1,j=>bif decide (T i (nI n j)/c=T k (nI n j)/d) then lx T n i c k d t (j+1) else decide (T i (nI n j)/c<T k (nI n j)/d)
def les (T:Nat→Nat→Rat) (n i:Nat) (c:Rat) (k:Nat) (d:Rat):Bool:=lx T n i c k d (n+1) 0
theorem aJ4 {m k:Nat} {a b:Rat} (ha:Bd m a) (hb:Bd k b) (hm:m≤1073741824) (hk:k≤1073741824):aIG a b=some (if a<b then -1 else if b<a then 1 else 0):=by
 unfold aIG;rw [ha.qs hm,hb.qs hk];rfl
theorem aDB {a b:Rat}:((if a<b then -1 else if b<a then 1 else 0:Int)=0↔a=b)∧decide ((if a<b then -1 else if b<a then 1 else 0:Int)<0)=decide (a<b):=by
 by_cases h:a<b
 ·rw [if_pos h]
  refine⟨⟨fun h2=>absurd h2 (by decide),fun h2=>?_⟩,by rw [decide_eq_true h];rfl⟩
  rw [h2] at h;exact absurd h (Rat.lt_irrefl)
 ·rw [if_neg h]
  by_cases h2:b<a
  ·rw [if_pos h2]
   refine⟨⟨fun h3=>absurd h3 (by decide),fun h3=>?_⟩,by rw [decide_eq_false h];rfl⟩
   rw [h3] at h2;exact absurd h2 (Rat.lt_irrefl)
  ·rw [if_neg h2]
   exact⟨⟨fun _=>Rat.le_antisymm (Rat.not_lt.1 h2) (Rat.not_lt.1 h),fun _=>rfl⟩,by rw [decide_eq_false h];rfl⟩
theorem aJp {n j:Nat} (h:j≤n):nI n j<2*n+2:=by unfold nI;split<;>omega
theorem aFN {n:Nat} {rs:List (List Rat)} {od:Nat→Nat} {T:Nat→Nat→Rat} (hr:aAA n (2*n+2) rs od T) {B C:Nat} (hT:z6 n (2*n+2) B T) {i k:Nat} (hi:i<n) (hk:k<n) {c d:Rat} (hc:Bd C c) (hd:Bd C d) (hBC:B+C≤500000000) (hn:n≤1000) (K:Nat):
  ∀(t j fu:Nat),j+t=n+1→t<fu→aQ K (i:Int) c (k:Int) d (n:Int) (mp od n) rs fu ((j:Int)-1)=some (.ret (lx T n i c k d t j))∨(lx T n i c k d t j=false∧aQ K (i:Int) c (k:Int) d (n:Int) (mp od n) rs fu ((j:Int)-1)=some (.go ()))
 |0,j,fu,hj,hf=>by
  obtain⟨fu',rfl,_⟩:=bJ hf
  refine .inr ⟨rfl,?_⟩
  simp only [aQ,dF (show¬(j:Int)-1<(n:Int) by omega),bR]
 |t+1,j,fu,hj,hf=>by
  obtain⟨fu',rfl,_⟩:=bJ hf
  have hl:=aJp (n:=n) (j:=j) (by omega)
  have b1:=(hT i _ hi hl).div hc
  have b2:=(hT k _ hk hl).div hd
  have ih:=aFN hr hT hi hk hc hd hBC hn K t (j+1) fu' (by omega) (by omega)
  have key:dR K (i:Int) c (k:Int) d (mp od n) rs ((j:Int)-1) (aQ K (i:Int) c (k:Int) d (n:Int) (mp od n) rs fu') ((nI n j:Nat):Int)=bif decide (T i (nI n j)/c=T k (nI n j)/d) then aQ K (i:Int) c (k:Int) d (n:Int) (mp od n) rs fu' (((j+1:Nat):Int)-1) else some (.ret (decide (T i (nI n j)/c<T k (nI n j)/d))):=by
   simp only [dR,jP (f:=od) hi,jP (f:=od) hk,oB,hr.row i hi,hr.row k hk,jP (f:=T i) hl,jP (f:=T k) hl,aBE (hT i _ hi hl) hc (by omega) (by omega),aBE (hT k _ hk hl) hd (by omega) (by omega),aJ4 b1 b2 (by omega) (by omega)]
   by_cases h:T i (nI n j)/c=T k (nI n j)/d
   ·rw [nF (aDB.1.2 h),bR,decide_eq_true h,bX,oZ (by omega),oB]
    congr 1
    omega
   ·rw [nT (fun h2=>h (aDB.1.1 h2)),bX,decide_eq_false h,bR,aDB.2]
  have main:aQ K (i:Int) c (k:Int) d (n:Int) (mp od n) rs (fu'+1) ((j:Int)-1)=bif decide (T i (nI n j)/c=T k (nI n j)/d) then aQ K (i:Int) c (k:Int) d (n:Int) (mp od n) rs fu' (((j+1:Nat):Int)-1) else some (.ret (decide (T i (nI n j)/c<T k (nI n j)/d))):=by
   rw [←key]
   by_cases h0:j=0
   ·subst h0
    have c1:aR (2*(n:Int))=some (2*(n:Int)):=oZ (by omega)
    have c2:aR (2*(n:Int)+1)=some ((nI n 0:Nat):Int):=by
     rw [oZ (by omega)];congr 1
    simp only [aQ,dT (show((0:Nat):Int)-1<(n:Int) by omega),bX,dT (show((0:Nat):Int)-1<0 by omega),c1,c2,oB]
   ·have e:((nI n j:Nat):Int)=(j:Int)-1:=by unfold nI;rw [if_neg h0];omega
    rw [e]
    simp only [aQ,dT (show(j:Int)-1<(n:Int) by omega),bX,dF (show¬(j:Int)-1<0 by omega),bR]
  rw [main]
  have el:lx T n i c k d (t+1) j=bif decide (T i (nI n j)/c=T k (nI n j)/d) then lx T n i c k d t (j+1) else decide (T i (nI n j)/c<T k (nI n j)/d):=rfl
  rw [el]
  by_cases h:T i (nI n j)/c=T k (nI n j)/d
  ·rw [decide_eq_true h,bX,bX];exact ih
  ·rw [decide_eq_false h,bR,bR];exact .inl rfl
theorem aHP {n:Nat} {rs:List (List Rat)} {od:Nat→Nat} {T:Nat→Nat→Rat} {a6:List Int} (hr:aAA n (2*n+2) rs od T) {B C:Nat} (hT:z6 n (2*n+2) B T) {i k:Nat} (hi:i<n) (hk:k<n) {c d:Rat} (hc:Bd C c) (hd:Bd C d) (hBC:B+C≤500000000) (hn:n≤1000) {K:Nat} (hK:2000≤K):dY K (i:Int) c (k:Int) d (n:Int) (mp od n) a6 rs=some (les T n i c k d):=by
 have:=aFN hr hT hi hk hc hd hBC hn K (n+1) 0 K (by omega) (by omega)
 rw [show((0:Nat):Int)-1=-1 from rfl] at this
 rcases this with h|⟨h1,h2⟩
 ·simp only [dY,h,oB];rfl
 ·simp only [dY,h2,oB,jO]
  exact congrArg some h1.symm
def yD (T:Nat→Nat→Rat) (n i:Nat) (c:Rat) (j:Nat):Rat:=T i (nI n j)/c
theorem aJK {n:Nat} {T:Nat→Nat→Rat} {B C i:Nat} {c:Rat} (hT:z6 n (2*n+2) B T) (hi:i<n) (hc:Bd C c) (hB:B≤1073741824) (hC:C≤1073741824) (hn:n≤1000) (K:Nat):∀(t j fu:Nat),j+t=n→t<fu→jI K (mp (T i) (2*n+2)) (n:Int) c fu (mp (yD T n i c) (j+1)) (j:Int)=some (mp (yD T n i c) (n+1))
 |0,j,fu,hj,hf=>by
  obtain⟨fu',rfl,_⟩:=bJ hf
  have e:j=n:=by omega
  subst e
  simp only [jI,dF (show¬(j:Int)<(j:Int) by omega),bR]
 |t+1,j,fu,hj,hf=>by
  obtain⟨fu',rfl,_⟩:=bJ hf
  have e:yD T n i c (j+1)=T i j/c:=by unfold yD nI;rw [if_neg (by omega),Nat.add_sub_cancel]
  have ap:=apM (g:=yD T n i c) (i:=j+1) (by omega)
  rw [e] at ap
  simp only [jI,dT (show(j:Int)<(n:Int) by omega),bX,jP (f:=T i) (n:=2*n+2) (i:=j) (by omega),oB,aBE (hT i j hi (by omega)) hc hB hC,ap,uZ (i:=j) (by omega)]
  exact aJK hT hi hc hB hC hn K t (j+1) fu' (by omega) (by omega)
theorem aGv {n:Nat} {T:Nat→Nat→Rat} {B C i:Nat} {c:Rat} (hT:z6 n (2*n+2) B T) (hi:i<n) (hc:Bd C c) (hB:B≤1073741824) (hC:C≤1073741824) (hn:n≤1000) {K:Nat} (hK:2000≤K):kN K (mp (T i) (2*n+2)) (n:Int) c=some (mp (yD T n i c) (n+1)):=by
 have:=aJK hT hi hc hB hC hn K n 0 K (by omega) (by omega)
 simp only [Int.natCast_zero] at this
 have c1:aR (2*(n:Int))=some (2*(n:Int)):=oZ (by omega)
 have c2:aR (2*(n:Int)+1)=some ((2*n+1:Nat):Int):=by rw [oZ (by omega)];congr 1
 have e:[T i (2*n+1)/c]=mp (yD T n i c) (0+1):=rfl
 simp only [kN,c1,c2,oB,jP (f:=T i) (n:=2*n+2) (i:=2*n+1) (by omega),aBE (hT i (2*n+1) hi (by omega)) hc hB hC,e,this,pV]
theorem aFz {n:Nat} {T:Nat→Nat→Rat} {B C i k:Nat} {c d:Rat} (hT:z6 n (2*n+2) B T) (hi:i<n) (hk:k<n) (hc:Bd C c) (hd:Bd C d) (hBC:B+C≤500000000) (hn:n≤1000) (K:Nat):∀(t j fu:Nat),j+t=n+1→t<fu→fI K (mp (yD T n i c) (n+1)) (mp (yD T n k d) (n+1)) fu (j:Int)=some (.ret (lx T n i c k d t j))∨(lx T n i c k d t j=false∧fI K (mp (yD T n i c) (n+1)) (mp (yD T n k d) (n+1)) fu (j:Int)=some (.go ()))
 |0,j,fu,hj,hf=>by
  obtain⟨fu',rfl,_⟩:=bJ hf
  refine .inr ⟨rfl,?_⟩
  simp only [fI,bB,dF (show¬(j:Int)<((n+1:Nat):Int) by omega),bR]
 |t+1,j,fu,hj,hf=>by
  obtain⟨fu',rfl,_⟩:=bJ hf
  have hl:=aJp (n:=n) (j:=j) (by omega)
  have b1:Bd (B+C) (yD T n i c j):=(hT i _ hi hl).div hc
  have b2:Bd (B+C) (yD T n k d j):=(hT k _ hk hl).div hd
  have ih:=aFz hT hi hk hc hd hBC hn K t (j+1) fu' (by omega) (by omega)
  have el:lx T n i c k d (t+1) j=bif decide (yD T n i c j=yD T n k d j) then lx T n i c k d t (j+1) else decide (yD T n i c j<yD T n k d j):=rfl
  rw [el]
  simp only [fI,bB,dT (show(j:Int)<((n+1:Nat):Int) by omega),bX,jP (f:=yD T n i c) (n:=n+1) (i:=j) (by omega),jP (f:=yD T n k d) (n:=n+1) (i:=j) (by omega),oB,aJ4 b1 b2 (by omega) (by omega)]
  by_cases h:yD T n i c j=yD T n k d j
  ·rw [nF (aDB.1.2 h),bR,decide_eq_true h,bX,uZ (i:=j) (by omega),oB];exact ih
  ·rw [nT (fun h2=>h (aDB.1.1 h2)),bX,decide_eq_false h,bR,aDB.2];exact .inl rfl
theorem aFV {n:Nat} {T:Nat→Nat→Rat} {B C i k:Nat} {c d:Rat} (hT:z6 n (2*n+2) B T) (hi:i<n) (hk:k<n) (hc:Bd C c) (hd:Bd C d) (hBC:B+C≤500000000) (hn:n≤1000) {K:Nat} (hK:2000≤K):jS K (mp (yD T n i c) (n+1)) (mp (yD T n k d) (n+1))=some (les T n i c k d):=by
 have:=aFz hT hi hk hc hd hBC hn K (n+1) 0 K (by omega) (by omega)
 simp only [Int.natCast_zero] at this
 rcases this with h|⟨h1,h2⟩
 ·simp only [jS,h,oB];rfl
 ·simp only [jS,h2,oB,nZ]
  exact congrArg some h1.symm
end Go.Proofs.YtolfcbpgmfbgmaaGreat
set_option linter.unusedVariables false
namespace Go.Proofs.YtolfcbpgmfbgmaaGreat
def y7 (T:Nat→Nat→Rat) (r c k:Nat):Rat:=T r k/T r c
theorem aHB {n w r c B:Nat} {T:Nat→Nat→Rat} (hT:z6 n w B T) (hr:r<n) (hc:c<w) (hB:B≤500000000) (hw:w≤100000) (K:Nat):∀(t k fu:Nat),k+t=w→t<fu→gY K (mx T n w) (r:Int) (c:Int) fu (mp (y7 T r c) k) (k:Int)=some (mp (y7 T r c) w)
 |0,k,fu,hk,hf=>by
  obtain⟨fu',rfl,_⟩:=bJ hf
  have e:k=w:=by omega
  subst e
  simp only [gY,aAS (g:=T) (w:=k) hr,oB,bB,dF (show¬(k:Int)<(k:Int) by omega),bR]
 |t+1,k,fu,hk,hf=>by
  obtain⟨fu',rfl,_⟩:=bJ hf
  have hkw:k<w:=by omega
  have ap:=apM (g:=y7 T r c) (i:=k) (by omega)
  simp only [gY,aAS (g:=T) (w:=w) hr,oB,bB,dT (show(k:Int)<(w:Int) by omega),bX,jP (f:=T r) hkw,jP (f:=T r) hc,aBE (hT r k hr hkw) (hT r c hr hc) (by omega) (by omega),show T r k/T r c=y7 T r c k from rfl,ap,uZ (i:=k) (by omega)]
  exact aHB hT hr hc hB hw K t (k+1) fu' (by omega) (by omega)
theorem aJU {n w r c B k:Nat} {T:Nat→Nat→Rat} (hT:z6 n w B T) (hr:r<n) (hc:c<w) (hk:k<w):Bd (B+B) (y7 T r c k):=(hT r k hr hk).div (hT r c hr hc)
theorem aHw {n w r c i B:Nat} {T:Nat→Nat→Rat} (hT:z6 n w B T) (hr:r<n) (hc:c<w) (hi:i<n) (hne:i≠r) (hB:B≤200000000) (hw:w≤100000) (K:Nat):∀(t k fu:Nat),k+t=w→t<fu→iA K (mx T n w) (c:Int) (mp (y7 T r c) w) (i:Int) fu (mp (sO T r c i) k) (k:Int)=some (mp (sO T r c i) w)
 |0,k,fu,hk,hf=>by
  obtain⟨fu',rfl,_⟩:=bJ hf
  have e:k=w:=by omega
  subst e
  simp only [iA,bB,dF (show¬(k:Int)<(k:Int) by omega),bR]
 |t+1,k,fu,hk,hf=>by
  obtain⟨fu',rfl,_⟩:=bJ hf
  have hkw:k<w:=by omega
  have ap:=apM (g:=sO T r c i) (i:=k) (by omega)
  have e:T i k-T i c*y7 T r c k=sO T r c i k:=by unfold sO y7;rw [if_neg hne]
  have b:=aJU hT hr hc hkw
  have b2:=hT i c hi hc
  simp only [iA,bB,dT (show(k:Int)<(w:Int) by omega),bX,aAS (g:=T) (w:=w) hi,oB,jP (f:=T i) hkw,jP (f:=T i) hc,jP (f:=y7 T r c) hkw,aEb b2 b (by omega) (by omega),aJF (hT i k hi hkw) (b2.mul b) (by omega) (by omega),e,ap,uZ (i:=k) (by omega)]
  exact aHw hT hr hc hi hne hB hw K t (k+1) fu' (by omega) (by omega)
theorem aHF {n w r c B:Nat} {T:Nat→Nat→Rat} (hT:z6 n w B T) (hr:r<n) (hc:c<w) (hB:B≤200000000) (hw:w≤100000) (hn:n≤100000) {K:Nat} (hK:w<K):∀(t i fu:Nat),i+t=n→t<fu→cU K (mx T n w) (r:Int) (c:Int) (mp (y7 T r c) w) fu (mx (sO T r c) i w) (i:Int)=some (mx (sO T r c) n w)
 |0,i,fu,hk,hf=>by
  obtain⟨fu',rfl,_⟩:=bJ hf
  have e:i=n:=by omega
  subst e
  simp only [cU,rY,dF (show¬(i:Int)<(i:Int) by omega),bR]
 |t+1,i,fu,hk,hf=>by
  obtain⟨fu',rfl,_⟩:=bJ hf
  have hin:i<n:=by omega
  have ap:sD (mx (sO T r c) i w) [mp (sO T r c i) w]=some (mx (sO T r c) (i+1) w):=apM (g:=fun i=>mp (sO T r c i) w) (by omega)
  have ih:=aHF hT hr hc hB hw hn hK t (i+1) fu' (by omega) (by omega)
  by_cases e:i=r
  ·have e2:mp (y7 T r c) w=mp (sO T r c i) w:=iV fun k _=>by unfold sO y7;rw [if_pos e]
   simp only [cU,rY,dT (show(i:Int)<(n:Int) by omega),bX,qT (show(i:Int)=(r:Int) by omega)]
   rw [e2] at ih ⊢
   simp only [ap,oB,uZ (i:=i) (by omega)]
   exact ih
  ·have h82:=aHw hT hr hc hin e hB hw K w 0 K (by omega) hK
   simp only [Int.natCast_zero,zI] at h82
   simp only [cU,rY,dT (show(i:Int)<(n:Int) by omega),bX,qF (show(i:Int)≠(r:Int) by omega),bR,h82,oB,nN,ap,uZ (i:=i) (by omega)]
   exact ih
theorem aNv {n w r c B:Nat} {T:Nat→Nat→Rat} (hT:z6 n w B T) (hr:r<n) (hc:c<w) (hB:B≤200000000) (hw:w≤100000) (hn:n≤100000) {K:Nat} (hK:w+n<K):oK K (mx T n w) (r:Int) (c:Int)=some (mx (sO T r c) n w):=by
 have e1:=aHB hT hr hc (by omega) hw K w 0 K (by omega) (by omega)
 have e2:=aHF hT hr hc hB hw hn (K:=K) (by omega) n 0 K (by omega) (by omega)
 have e3:mx (sO T r c) 0 w=[]:=rfl
 rw [e3] at e2
 simp only [Int.natCast_zero,zI] at e1 e2
 simp only [oK,e1,oB,nO,e2,nR]
theorem aPa {xs ys:List Rat} (h:xs.length=ys.length):cpL xs ys=ys:=by
 unfold cpL
 rw [h,Nat.min_self,List.take_length,←h,List.drop_length,List.append_nil]
theorem aEI {rs:List (List Rat)} {o p:Nat} {x:List Rat} (ho:o<rs.length):(rs.set o x).getD p []=if p=o then x else rs.getD p []:=by
 rw [List.getD_eq_getElem?_getD,List.getD_eq_getElem?_getD,List.getElem?_set]
 by_cases h:o=p
 ·subst h;rw [if_pos rfl,if_pos ho,if_pos rfl];rfl
 ·rw [if_neg h,if_neg (fun e=>h e.symm)]
theorem aAA.set {n w:Nat} {rs:List (List Rat)} {od:Nat→Nat} {T:Nat→Nat→Rat} (h:aAA n w rs od T) {i:Nat} (hi:i<n) (f:Nat→Rat):aAA n w (rs.set (od i) (mp f w)) od (nP T i f):=
 ⟨fun j hj=>by rw [List.length_set];exact h.lt j hj,h.inj,fun j hj=>by
  rw [aEI (h.lt i hi)]
  by_cases e:j=i
  ·subst e;rw [if_pos rfl,bG]
  ·rw [if_neg (fun e2=>e (h.inj j i hj hi e2)),cP e]
   exact h.row j hj⟩
theorem aAA.congr {n w:Nat} {rs:List (List Rat)} {od:Nat→Nat} {T T':Nat→Nat→Rat} (h:aAA n w rs od T) (e:∀i k,i<n→k<w→T i k=T' i k):aAA n w rs od T':=
 ⟨h.lt,h.inj,fun i hi=>by rw [h.row i hi];exact iV fun k hk=>e i k hi hk⟩
theorem aHj {w v27 B:Nat} {a5:List (List Rat)} {x22:List Rat} {g:Nat→Rat} {p:Rat} (hx:cpL x22 (a5.getD v27 [])=mp g w) (hg:∀k,k<w→Bd B (g k)) (hp:Bd B p) (hB:B≤1073741824) (hw:w≤100000) (K:Nat):∀(t k fu:Nat),k+t=w→t<fu→cF K a5 x22 v27 p fu (mp (fun j=>if j<k then g j/p else g j) w) (k:Int)=some (mp (fun j=>g j/p) w)
 |0,k,fu,hk,hf=>by
  obtain⟨fu',rfl,_⟩:=bJ hf
  have e:k=w:=by omega
  subst e
  simp only [cF,hx,bB,dF (show¬(k:Int)<(k:Int) by omega),bR]
  exact congrArg some (iV fun j hj=>if_pos hj)
 |t+1,k,fu,hk,hf=>by
  obtain⟨fu',rfl,_⟩:=bJ hf
  have hkw:k<w:=by omega
  have e1:(fun j=>if j<k then g j/p else g j) k=g k:=if_neg (by omega)
  have e2:mp (nP (fun j=>if j<k then g j/p else g j) k (g k/p)) w=mp (fun j=>if j<k+1 then g j/p else g j) w:=iV fun j _=>by
   by_cases e:j=k
   ·subst e;rw [bG,if_pos (by omega)]
   ·rw [cP e]
    by_cases hlt:j<k
    ·rw [if_pos hlt,if_pos (by omega)]
    ·rw [if_neg hlt,if_neg (by omega)]
  simp only [cF,hx,bB,dT (show(k:Int)<(w:Int) by omega),bX,jP (f:=fun j=>if j<k then g j/p else g j) hkw,e1,oB,aBE (hg k hkw) hp hB hB,aAg (f:=fun j=>if j<k then g j/p else g j) hkw,e2,uZ (i:=k) (by omega)]
  exact aHj hx hg hp hB hw K t (k+1) fu' (by omega) (by omega)
theorem aFD {w o B:Nat} {a5 x66:List (List Rat)} {g q:Nat→Rat} {x:Rat} (ho:o<x66.length) (hne:a5.length≠o) (h66:x66.getD o []=mp g w) (hq:x66.getD a5.length []=mp q w) (hg:∀k,k<w→Bd B (g k)) (hqb:∀k,k<w→Bd (B+B) (q k)) (hx:Bd B x) (hB:B≤200000000) (hw:w≤100000) (K:Nat):∀(t k fu:Nat),k+t=w→t<fu→cA K a5 x66 o x fu (x66.set o (mp (fun j=>if j<k then g j-x*q j else g j) w)) (k:Int)=some (x66.set o (mp (fun j=>g j-x*q j) w))
 |0,k,fu,hk,hf=>by
  obtain⟨fu',rfl,_⟩:=bJ hf
  have e:k=w:=by omega
  subst e
  simp only [cA,h66,bB,dF (show¬(k:Int)<(k:Int) by omega),bR]
  exact congrArg (fun z=>some (x66.set o z)) (iV fun j hj=>if_pos hj)
 |t+1,k,fu,hk,hf=>by
  obtain⟨fu',rfl,_⟩:=bJ hf
  have hkw:k<w:=by omega
  have e1:(fun j=>if j<k then g j-x*q j else g j) k=g k:=if_neg (by omega)
  have e2:mp (nP (fun j=>if j<k then g j-x*q j else g j) k (g k-x*q k)) w=mp (fun j=>if j<k+1 then g j-x*q j else g j) w:=iV fun j _=>by
   by_cases e:j=k
   ·subst e;rw [bG,if_pos (by omega)]
   ·rw [cP e]
    by_cases hlt:j<k
    ·rw [if_pos hlt,if_pos (by omega)]
    ·rw [if_neg hlt,if_neg (by omega)]
  have r1:(x66.set o (mp (fun j=>if j<k then g j-x*q j else g j) w)).getD o []=mp (fun j=>if j<k then g j-x*q j else g j) w:=by rw [aEI ho,if_pos rfl]
  have r2:(x66.set o (mp (fun j=>if j<k then g j-x*q j else g j) w)).getD a5.length []=mp q w:=by rw [aEI ho,if_neg hne];exact hq
  simp only [cA,h66,bB,dT (show(k:Int)<(w:Int) by omega),bX,r1,r2,jP (f:=fun j=>if j<k then g j-x*q j else g j) hkw,jP (f:=q) hkw,e1,oB,aEb hx (hqb k hkw) (by omega) (by omega),aJF (hg k hkw) (hx.mul (hqb k hkw)) (by omega) (by omega),aAg (f:=fun j=>if j<k then g j-x*q j else g j) hkw,e2,List.set_set,uZ (i:=k) (by omega)]
  exact aFD ho hne h66 hq hg hqb hx hB hw K t (k+1) fu' (by omega) (by omega)
def pst (T:Nat→Nat→Rat) (r c t i k:Nat):Rat:=if i<t∨i=r then sO T r c i k else T i k
theorem aMn {T:Nat→Nat→Rat} {r c t:Nat}:∀i k,(nP (pst T r c t) t (sO T r c t)) i k=pst T r c (t+1) i k:=fun i k=>by
 by_cases e:i=t
 ·subst e;rw [bG];unfold pst;rw [if_pos (.inl (by omega))]
 ·rw [cP e];unfold pst
  by_cases h:i<t∨i=r
  ·rw [if_pos h,if_pos (by omega)]
  ·rw [if_neg h,if_neg (by omega)]
theorem aIc {T:Nat→Nat→Rat} {r c t:Nat} (h:t=r∨T t c=0):∀i k,pst T r c t i k=pst T r c (t+1) i k:=fun i k=>by
 unfold pst
 by_cases h1:i<t∨i=r
 ·rw [if_pos h1,if_pos (by omega)]
 ·rw [if_neg h1]
  by_cases e:i=t
  ·subst e
   have h2:T i c=0:=by rcases h with h|h;exact absurd (.inr h) h1;exact h
   rw [if_pos (.inl (by omega))]
   unfold sO
   rw [if_neg (fun e=>h1 (.inr e)),h2,Rat.zero_mul,Rat.sub_eq_add_neg,Rat.neg_zero,Rat.add_zero]
  ·rw [if_neg (by omega)]
theorem aCT {n w r c B:Nat} {a5:List (List Rat)} {od:Nat→Nat} {T:Nat→Nat→Rat} (hT:z6 n w B T) (hr:r<n) (hc:c<w) (hor:od r=a5.length) (hB:B≤200000000) (hw:w≤100000) (hn:n≤100000) {K:Nat} (hK:w<K):∀(t i fu:Nat) (rs:List (List Rat)),i+t=n→t<fu→aAA n w rs od (pst T r c i)→∃rs',bA K (r:Int) (c:Int) a5 (mp od n) fu rs (i:Int)=some rs'∧aAA n w rs' od (sO T r c)
 |0,i,fu,rs,hk,hf,h=>by
  obtain⟨fu',rfl,_⟩:=bJ hf
  have e:i=n:=by omega
  subst e
  refine⟨rs,by simp only [bA,bB,dF (show¬(i:Int)<(i:Int) by omega),bR],h.congr fun j k hj _=>if_pos (.inl hj)⟩
 |t+1,i,fu,rs,hk,hf,h=>by
  obtain⟨fu',rfl,_⟩:=bJ hf
  have hin:i<n:=by omega
  have hrow:=h.row i hin
  by_cases e:i=r
  ·obtain⟨rs',g1,g2⟩:=aCT hT hr hc hor hB hw hn hK t (i+1) fu' rs (by omega) (by omega) (h.congr fun j k _ _=>aIc (.inl e) j k)
   refine⟨rs',?_,g2⟩
   simp only [bA,bB,dT (show(i:Int)<(n:Int) by omega),bX,jP (f:=od) hin,oB,hrow,jP (f:=pst T r c i i) hc,qT (show(i:Int)=(r:Int) by omega),uZ (i:=i) (by omega)]
   exact g1
  ·have ei:pst T r c i i=T i:=by funext k;unfold pst;rw [if_neg (by omega)]
   rw [ei] at hrow
   by_cases hz:T i c=0
   ·obtain⟨rs',g1,g2⟩:=aCT hT hr hc hor hB hw hn hK t (i+1) fu' rs (by omega) (by omega) (h.congr fun j k _ _=>aIc (.inr hz) j k)
    refine⟨rs',?_,g2⟩
    simp only [bA,bB,dT (show(i:Int)<(n:Int) by omega),bX,jP (f:=od) hin,oB,hrow,jP (f:=T i) hc,qF (show(i:Int)≠(r:Int) by omega),bR,wS (hT i c hin hc) (by omega),qT (aPU.2 hz),uZ (i:=i) (by omega)]
    exact g1
   ·have hne:a5.length≠od i:=fun h2=>e (h.inj i r hin hr (by rw [←h2,hor]))
    have hq:rs.getD a5.length []=mp (y7 T r c) w:=by
     rw [←hor,h.row r hr]
     exact iV fun k _=>by unfold pst sO y7;rw [if_pos (.inr rfl),if_pos rfl]
    have h112:=aFD (h.lt i hin) hne hrow hq (fun k hk=>hT i k hin hk) (fun k hk=>aJU hT hr hc hk) (hT i c hin hc) hB hw K w 0 K (by omega) hK
    have e0:rs.set (od i) (mp (fun j=>if j<0 then T i j-T i c*y7 T r c j else T i j) w)=rs:=by
     have e9:mp (fun j=>if j<0 then T i j-T i c*y7 T r c j else T i j) w=rs.getD (od i) []:=by
      rw [hrow];exact iV fun j _=>if_neg (by omega)
     rw [e9,List.getD_eq_getElem?_getD,List.getElem?_eq_getElem (h.lt i hin),Option.getD_some,List.set_getElem_self]
    rw [e0] at h112
    simp only [Int.natCast_zero] at h112
    have e1:mp (fun j=>T i j-T i c*y7 T r c j) w=mp (sO T r c i) w:=iV fun j _=>by unfold sO y7;rw [if_neg e]
    rw [e1] at h112
    obtain⟨rs',g1,g2⟩:=aCT hT hr hc hor hB hw hn hK t (i+1) fu' _ (by omega) (by omega) ((h.set hin (sO T r c i)).congr fun j k _ _=>aMn j k)
    refine⟨rs',?_,g2⟩
    simp only [bA,bB,dT (show(i:Int)<(n:Int) by omega),bX,jP (f:=od) hin,oB,hrow,jP (f:=T i) hc,qF (show(i:Int)≠(r:Int) by omega),bR,wS (hT i c hin hc) (by omega),qF (fun h2=>hz (aPU.1 h2)),h112,iM,uZ (i:=i) (by omega)]
    exact g1
theorem aM2 {n w r c B:Nat} {rs:List (List Rat)} {od b:Nat→Nat} {T:Nat→Nat→Rat} {a2:Int} (h:aAA n w rs od T) (hT:z6 n w B T) (hr:r<n) (hc:c<w) (hB:B≤200000000) (hw:w≤100000) (hn:n≤100000) {K:Nat} (hK:w+n<K):∃rs' od',iI K (r:Int) (c:Int) a2 (mp od n) (mp (fun i=>((b i:Nat):Int)) n) rs=some (((b r:Nat):Int),mp od' n,mp (fun i=>((nP b r c i:Nat):Int)) n,rs')∧aAA n w rs' od' (sO T r c):=by
 have hrow:=h.row r hr
 have hcp:cpL (mp (fun _=>(0:Rat)) w) (rs.getD (od r) [])=mp (T r) w:=by rw [hrow];exact aPa (by rw [bB,bB])
 have h53:=aHj hcp (fun k hk=>hT r k hr hk) (hT r c hr hc) (by omega) hw K w 0 K (by omega) (by omega)
 have e0:mp (fun j=>if j<0 then T r j/T r c else T r j) w=mp (T r) w:=iV fun j _=>if_neg (by omega)
 rw [e0] at h53
 have h0:aAA n w (rs++[mp (y7 T r c) w]) (nP od r rs.length) (pst T r c 0):=by
  refine⟨fun i hi=>?_,fun i j hi hj e=>?_,fun i hi=>?_⟩
  ·by_cases e:i=r
   ·rw [e,bG];simp
   ·rw [cP e];have:=h.lt i hi;simp;omega
  ·by_cases e1:i=r
   ·by_cases e2:j=r
    ·rw [e1,e2]
    ·rw [e1,bG,cP e2] at e;have:=h.lt j hj;omega
   ·by_cases e2:j=r
    ·rw [e2,bG,cP e1] at e;have:=h.lt i hi;omega
    ·rw [cP e1,cP e2] at e;exact h.inj i j hi hj e
  ·by_cases e:i=r
   ·rw [e,bG,List.getD_eq_getElem?_getD,List.getElem?_append_right (Nat.le_refl _),Nat.sub_self]
    show mp (y7 T r c) w=_
    exact iV fun k _=>by unfold pst sO y7;rw [if_pos (.inr rfl),if_pos rfl]
   ·have hl:=h.lt i hi
    rw [cP e,List.getD_eq_getElem?_getD,List.getElem?_append_left hl,←List.getD_eq_getElem?_getD,h.row i hi]
    exact iV fun k _=>by unfold pst;rw [if_neg (by omega)]
 obtain⟨rs',g1,g2⟩:=aCT (a5:=rs) hT hr hc bG hB hw hn (K:=K) (by omega) n 0 K _ (by omega) (by omega) h0
 simp only [Int.natCast_zero] at h53 g1
 have e3:mp (fun j=>T r j/T r c) w=mp (y7 T r c) w:=rfl
 rw [e3] at h53
 have e4:mp (nP (fun i=>((b i:Nat):Int)) r (c:Int)) n=mp (fun i=>((nP b r c i:Nat):Int)) n:=iV fun i _=>by
  by_cases e:i=r
  ·rw [e,bG,bG]
  ·rw [cP e,cP e]
 refine⟨rs',nP od r rs.length,?_,g2⟩
 simp only [iI,jP (f:=od) hr,oB,hrow,bB,aHH (z:=(0:Rat)) (n:=w) (by omega)]
 rw [←hrow,hcp]
 simp only [jP (f:=T r) hc,oB,h53,iY,jP (f:=od) hr,aAg (f:=od) hr,g1,iX,jP (f:=fun i=>((b i:Nat):Int)) hr,aAg (f:=fun i=>((b i:Nat):Int)) hr,e4]
end Go.Proofs.YtolfcbpgmfbgmaaGreat
set_option linter.unusedVariables false
namespace Go.Proofs.YtolfcbpgmfbgmaaGreat
def enc (s:Option Nat):Int:=match s with|none=>-1|some r=>(r:Int)
def sel (T:Nat→Nat→Rat) (n c:Nat):Nat→Nat→Option Nat→Option Nat
 |0,_,s=>s
 |t+1,i,s=>bif decide (0<(T i c).num.sign) then(match s with
  |none=>sel T n c t (i+1) (some i)
  |some r=>bif les T n i (T i c) r (T r c) then sel T n c t (i+1) (some i) else sel T n c t (i+1) (some r)) else sel T n c t (i+1) s
theorem aAc {T:Nat→Nat→Rat} {n c:Nat}:∀t i s r,(∀q,s=some q→q<i∧0<(T q c).num.sign)→sel T n c t i s=some r→r<i+t∧0<(T r c).num.sign
 |0,i,s,r,h,e=>by have:=h r e;exact⟨by omega,this.2⟩
 |t+1,i,s,r,h,e=>by
  unfold sel at e
  by_cases hp:0<(T i c).num.sign
  ·rw [decide_eq_true hp,bX] at e
   have hi:∀q,some i=some q→q<i+1∧0<(T q c).num.sign:=fun q hq=>by cases hq;exact⟨by omega,hp⟩
   cases s with
   |none=>have:=aAc t (i+1) (some i) r hi e;exact⟨by omega,this.2⟩
   |some p=>
    have hs:∀q,some p=some q→q<i+1∧0<(T q c).num.sign:=fun q hq=>by have:=h q hq;exact⟨by omega,this.2⟩
    simp only at e
    cases hl:les T n i (T i c) p (T p c)
    ·rw [hl,bR] at e;have:=aAc t (i+1) (some p) r hs e;exact⟨by omega,this.2⟩
    ·rw [hl,bX] at e;have:=aAc t (i+1) (some i) r hi e;exact⟨by omega,this.2⟩
  ·rw [decide_eq_false hp,bR] at e
   have:=aAc t (i+1) s r (fun q hq=>by have:=h q hq;exact⟨by omega,this.2⟩) e
   exact⟨by omega,this.2⟩
theorem aFM {n c B:Nat} {rs:List (List Rat)} {od:Nat→Nat} {T:Nat→Nat→Rat} {v6:Int×(List Nat)×(List Int)×(List (List Rat))} {x:Int} {bs:List Int} (h6:v6.1=(n:Int)) (h:aAA n (2*n+2) rs od T) (hT:z6 n (2*n+2) B T) (hc:c<2*n+2) (hB:B≤200000000) (hn:n≤1000) {K:Nat} (hK:2000≤K):∀(t i fu:Nat) (s:Option Nat),i+t=n→t<fu→(∀q,s=some q→q<i)→cV K v6 (x,mp od n,bs,rs) (c:Int) fu (enc s) (i:Int)=some (enc (sel T n c t i s))
 |0,i,fu,s,hi,hf,hs=>by
  obtain⟨fu',rfl,_⟩:=bJ hf
  simp only [cV,bB,dF (show¬(i:Int)<(n:Int) by omega),bR,sel]
 |t+1,i,fu,s,hi,hf,hs=>by
  obtain⟨fu',rfl,_⟩:=bJ hf
  have hin:i<n:=by omega
  have hb:=hT i c hin hc
  have ih:=fun s hs=>aFM (x:=x) (bs:=bs) h6 h hT hc hB hn hK t (i+1) fu' s (by omega) (by omega) hs
  simp only [cV,bB,dT (show(i:Int)<(n:Int) by omega),bX,jP (f:=od) hin,oB,h.row i hin,jP (f:=T i) hc,wS hb (by omega),sel]
  by_cases hp:0<(T i c).num.sign
  ·simp only [dT hp,bX]
   cases s with
   |none=>
    simp only [enc,dT (show(-1:Int)<0 by omega),bX,uZ (i:=i) (by omega),oB]
    exact ih (some i) (fun q hq=>by cases hq;omega)
   |some p=>
    have hpn:p<n:=by have:=hs p rfl;omega
    have hl:=aHP (a6:=bs) h hT hin hpn hb (hT p c hpn hc) (by omega) hn hK
    simp only [enc,dF (show¬(p:Int)<0 by omega),bR,jP (f:=od) hpn,h.row p hpn,jP (f:=T p) hc,oB,h6,hl]
    cases les T n i (T i c) p (T p c)
    ·simp only [bR,uZ (i:=i) (by omega),oB]
     exact ih (some p) (fun q hq=>by have:=hs q hq;omega)
    ·simp only [bX,uZ (i:=i) (by omega),oB]
     exact ih (some i) (fun q hq=>by cases hq;omega)
  ·simp only [dF hp,bR,uZ (i:=i) (by omega),oB]
   exact ih s (fun q hq=>by have:=hs q hq;omega)
theorem aFA {n c B:Nat} {T:Nat→Nat→Rat} {a1:List Rat} (h1:a1.length=n) (hT:z6 n (2*n+2) B T) (hc:c<2*n+2) (hB:B≤200000000) (hn:n≤1000) {K:Nat} (hK:2000≤K):∀(t i fu:Nat) (s:Option Nat),i+t=n→t<fu→(∀q,s=some q→q<i)→cL K a1 (mx T n (2*n+2)) (c:Int) fu (enc s) (i:Int)=some (enc (sel T n c t i s))
 |0,i,fu,s,hi,hf,hs=>by
  obtain⟨fu',rfl,_⟩:=bJ hf
  simp only [cL,h1,dF (show¬(i:Int)<(n:Int) by omega),bR,sel]
 |t+1,i,fu,s,hi,hf,hs=>by
  obtain⟨fu',rfl,_⟩:=bJ hf
  have hin:i<n:=by omega
  have hb:=hT i c hin hc
  have ih:=fun s hs=>aFA h1 hT hc hB hn hK t (i+1) fu' s (by omega) (by omega) hs
  simp only [cL,h1,dT (show(i:Int)<(n:Int) by omega),bX,aAS (g:=T) (w:=2*n+2) hin,oB,jP (f:=T i) hc,wS hb (by omega),sel]
  by_cases hp:0<(T i c).num.sign
  ·simp only [dT hp,dF (show¬(T i c).num.sign≤0 by omega),bX,bR]
   cases s with
   |none=>
    simp only [enc,dT (show(-1:Int)<0 by omega),bX,uZ (i:=i) (by omega),oB]
    exact ih (some i) (fun q hq=>by cases hq;omega)
   |some p=>
    have hpn:p<n:=by have:=hs p rfl;omega
    have hbp:=hT p c hpn hc
    have hl:=aFV hT hin hpn hb hbp (by omega) hn hK
    simp only [enc,dF (show¬(p:Int)<0 by omega),bR,aGv hT hin hb (by omega) (by omega) hn hK,aAS (g:=T) (w:=2*n+2) hpn,jP (f:=T p) hc,oB,aGv hT hpn hbp (by omega) (by omega) hn hK,hl]
    cases les T n i (T i c) p (T p c)
    ·simp only [bR,uZ (i:=i) (by omega),oB]
     exact ih (some p) (fun q hq=>by have:=hs q hq;omega)
    ·simp only [bX,uZ (i:=i) (by omega),oB]
     exact ih (some i) (fun q hq=>by cases hq;omega)
  ·simp only [dF hp,dT (show(T i c).num.sign≤0 by omega),bX,bR,uZ (i:=i) (by omega),oB]
   exact ih s (fun q hq=>by have:=hs q hq;omega)
def swv (T:Nat→Nat→Rat) (b:Nat→Nat) (n:Nat):Nat→Nat→Rat
 |0=>z0
 |i+1=>if b i<n then nP (swv T b n i) (b i) (T i (2*n+1)) else swv T b n i
def szv (T:Nat→Nat→Rat) (b:Nat→Nat) (n:Nat):Nat→Nat→Rat
 |0=>z0
 |i+1=>if b i<n then szv T b n i else if b i<2*n then nP (szv T b n i) (b i-n) (T i (2*n+1)) else szv T b n i
theorem aHE {n:Nat} {rs:List (List Rat)} {od b:Nat→Nat} {T:Nat→Nat→Rat} (h:aAA n (2*n+2) rs od T) (hn:n≤1000) (K:Nat):∀(t i fu:Nat),i+t=n→t<fu→bH K (n:Int) (mp od n) (mp (fun i=>((b i:Nat):Int)) n) rs fu (mp (swv T b n i) n) (mp (szv T b n i) n) (i:Int)=some (mp (swv T b n n) n,mp (szv T b n n) n)
 |0,i,fu,hi,hf=>by
  obtain⟨fu',rfl,_⟩:=bJ hf
  have e:i=n:=by omega
  subst e
  simp only [bH,bB,dF (show¬(i:Int)<(i:Int) by omega),bR]
 |t+1,i,fu,hi,hf=>by
  obtain⟨fu',rfl,_⟩:=bJ hf
  have hin:i<n:=by omega
  have ih:=aHE (b:=b) h hn K t (i+1) fu' (by omega) (by omega)
  have c1:aR (2*(n:Int))=some (2*(n:Int)):=oZ (by omega)
  have c2:aR (2*(n:Int)+1)=some ((2*n+1:Nat):Int):=by rw [oZ (by omega)];congr 1
  simp only [bH,bB,dT (show(i:Int)<(n:Int) by omega),bX,jP (f:=fun i=>((b i:Nat):Int)) hin,jP (f:=od) hin,oB,c1,c2,h.row i hin,jP (f:=T i) (n:=2*n+2) (i:=2*n+1) (by omega)]
  by_cases h1:b i<n
  ·have e1:swv T b n (i+1)=nP (swv T b n i) (b i) (T i (2*n+1)):=if_pos h1
   have e2:szv T b n (i+1)=szv T b n i:=if_pos h1
   rw [e1,e2] at ih
   simp only [dT (show((b i:Nat):Int)<(n:Int) by omega),bX,jP (f:=swv T b n i) h1,aAg (f:=swv T b n i) h1,oB,uZ (i:=i) (by omega)]
   exact ih
  ·have e1:swv T b n (i+1)=swv T b n i:=if_neg h1
   by_cases h2:b i<2*n
   ·have e2:szv T b n (i+1)=nP (szv T b n i) (b i-n) (T i (2*n+1)):=by
     show(if b i<n then _ else _)=_
     rw [if_neg h1,if_pos h2]
    have c3:aR (((b i:Nat):Int)-(n:Int))=some ((b i-n:Nat):Int):=by rw [show((b i:Nat):Int)-(n:Int)=((b i-n:Nat):Int) by omega,oZ (by omega)]
    rw [e1,e2] at ih
    simp only [dF (show¬((b i:Nat):Int)<(n:Int) by omega),bR,dT (show((b i:Nat):Int)<2*(n:Int) by omega),bX,c3,oB,jP (f:=szv T b n i) (n:=n) (i:=b i-n) (by omega),aAg (f:=szv T b n i) (n:=n) (i:=b i-n) (by omega),uZ (i:=i) (by omega)]
    exact ih
   ·have e2:szv T b n (i+1)=szv T b n i:=by
     show(if b i<n then _ else _)=_
     rw [if_neg h1,if_neg h2]
    rw [e1,e2] at ih
    simp only [dF (show¬((b i:Nat):Int)<(n:Int) by omega),bR,dF (show¬((b i:Nat):Int)<2*(n:Int) by omega),uZ (i:=i) (by omega),oB]
    exact ih
theorem aI6 {n:Nat} {rs:List (List Rat)} {od b:Nat→Nat} {T:Nat→Nat→Rat} (h:aAA n (2*n+2) rs od T) (hn:n≤1000) {K:Nat} (hK:2000≤K):eK K (n:Int) (mp od n) (mp (fun i=>((b i:Nat):Int)) n) rs=some ⟨mp (szv T b n n) n,mp (swv T b n n) n,0⟩:=by
 have:=aHE (b:=b) h hn K n 0 K (by omega) (by omega)
 simp only [Int.natCast_zero] at this
 have e:mp (fun _=>(0:Rat)) n=mp (swv T b n 0) n:=rfl
 have e2:mp (swv T b n 0) n=mp (szv T b n 0) n:=rfl
 simp only [eK,aHH (z:=(0:Rat)) (n:=n) (by omega),oB,e]
 rw [show bH K (n:Int) (mp od n) (mp (fun i=>((b i:Nat):Int)) n) rs K (mp (swv T b n 0) n) (mp (swv T b n 0) n) 0=_ from this]
 rfl
theorem aFy {n:Nat} {b:Nat→Nat} {T:Nat→Nat→Rat} {a1:List Rat} (h1:a1.length=n) (hb:∀i,i<n→b i<2*n) (hn:n≤1000) (K:Nat):∀(t i fu:Nat),i+t=n→t<fu→dM K a1 (mx T n (2*n+2)) (mp (fun i=>((b i:Nat):Int)) n) fu (mp (swv T b n i) n) (mp (szv T b n i) n) (i:Int)=some (mp (swv T b n n) n,mp (szv T b n n) n)
 |0,i,fu,hi,hf=>by
  obtain⟨fu',rfl,_⟩:=bJ hf
  have e:i=n:=by omega
  subst e
  simp only [dM,h1,dF (show¬(i:Int)<(i:Int) by omega),bR]
 |t+1,i,fu,hi,hf=>by
  obtain⟨fu',rfl,_⟩:=bJ hf
  have hin:i<n:=by omega
  have ih:=aFy (T:=T) h1 hb hn K t (i+1) fu' (by omega) (by omega)
  have c1:aR (2*(n:Int))=some (2*(n:Int)):=oZ (by omega)
  have c2:aR (2*(n:Int)+1)=some ((2*n+1:Nat):Int):=by rw [oZ (by omega)];congr 1
  have h2:=hb i hin
  simp only [dM,h1,dT (show(i:Int)<(n:Int) by omega),bX,jP (f:=fun i=>((b i:Nat):Int)) hin,oB]
  by_cases h3:b i<n
  ·have e1:swv T b n (i+1)=nP (swv T b n i) (b i) (T i (2*n+1)):=if_pos h3
   have e2:szv T b n (i+1)=szv T b n i:=if_pos h3
   rw [e1,e2] at ih
   simp only [dT (show((b i:Nat):Int)<(n:Int) by omega),bX,aAS (g:=T) (w:=2*n+2) hin,c1,c2,oB,jP (f:=T i) (n:=2*n+2) (i:=2*n+1) (by omega),jP (f:=swv T b n i) h3,aAg (f:=swv T b n i) h3,uZ (i:=i) (by omega)]
   exact ih
  ·have e1:swv T b n (i+1)=swv T b n i:=if_neg h3
   have e2:szv T b n (i+1)=nP (szv T b n i) (b i-n) (T i (2*n+1)):=by
    show(if b i<n then _ else _)=_
    rw [if_neg h3,if_pos h2]
   have c3:aR (((b i:Nat):Int)-(n:Int))=some ((b i-n:Nat):Int):=by rw [show((b i:Nat):Int)-(n:Int)=((b i-n:Nat):Int) by omega,oZ (by omega)]
   rw [e1,e2] at ih
   simp only [dF (show¬((b i:Nat):Int)<(n:Int) by omega),bR,c3,aAS (g:=T) (w:=2*n+2) hin,c1,c2,oB,jP (f:=T i) (n:=2*n+2) (i:=2*n+1) (by omega),jP (f:=szv T b n i) (n:=n) (i:=b i-n) (by omega),aAg (f:=szv T b n i) (n:=n) (i:=b i-n) (by omega),uZ (i:=i) (by omega)]
   exact ih
end Go.Proofs.YtolfcbpgmfbgmaaGreat
set_option linter.unusedVariables false
namespace Go.Proofs.YtolfcbpgmfbgmaaGreat
/-- The run from a tableau on. -/
def lem (n most:Nat):Nat→(Nat→Nat→Rat)→(Nat→Nat)→Nat→Nat→Nat→aN×Int
 |0,_,_,_,_,_=>(⟨[],[],0⟩,16)
 |f+1,T,b,r,c,cnt=>
  if cnt=most then(⟨[],[],0⟩,16)
  else if b r=2*n then(⟨mp (szv (sO T r c) (nP b r c) n n) n,mp (swv (sO T r c) (nP b r c) n n) n,((cnt+1:Nat):Int)⟩,0)
  else match sel (sO T r c) n (if b r<n then b r+n else b r-n) n 0 none with
   |none=>(⟨[],[],0⟩,15)
   |some r'=>lem n most f (sO T r c) (nP b r c) r' (if b r<n then b r+n else b r-n) (cnt+1)
structure LI (n:Nat) (Z T:Nat→Nat→Rat) (b:Nat→Nat) (r c:Nat):Prop where
 ti:TI n (2*n+2) Z T b
 hr:r<n
 hc:c≤2*n
 hp:T r c≠0
 hb:∀j,j<n→b j≤2*n
 fst:c=2*n→b r≠2*n
theorem TI.inj {n w:Nat} {Z T:Nat→Nat→Rat} {b:Nat→Nat} (h:TI n w Z T b) {i j:Nat} (hi:i<n) (hj:j<n) (e:b i=b j):i=j:=by
 by_cases h1:i=j
 ·exact h1
 ·have a:=h.un i i hi hi
  have c:=h.un i j hi hj
  rw [if_pos rfl,e] at a
  rw [if_neg h1,a] at c
  exact absurd c (by decide)
theorem aIs {n x:Nat} (hx:x≤2*n) (hne:x≠2*n):(if x<n then x+n else x-n)<2*n:=by split<;>omega
theorem LI.next {n:Nat} {Z T:Nat→Nat→Rat} {b:Nat→Nat} {r c r':Nat} (h:LI n Z T b r c) (hne:b r≠2*n) (hs:sel (sO T r c) n (if b r<n then b r+n else b r-n) n 0 none=some r'):LI n Z (sO T r c) (nP b r c) r' (if b r<n then b r+n else b r-n):=by
 have hlt:=aIs (h.hb r h.hr) hne
 obtain⟨s1,s2⟩:=aAc n 0 none r' (fun q hq=>by cases hq) hs
 refine⟨h.ti.pivot h.hr (by have:=h.hc;omega) h.hp,by omega,by omega,fun e=>?_,fun j hj=>?_,fun e=>by omega⟩
 ·rw [e] at s2;exact absurd s2 (by decide)
 ·by_cases e:j=r
  ·rw [e,bG];exact h.hc
  ·rw [cP e];exact h.hb j hj
def Sm (n B:Nat) (Z:Nat→Nat→Rat):Prop:=∀T b,TI n (2*n+2) Z T b→z6 n (2*n+2) B T
theorem aRd {n most B:Nat} {Z:Nat→Nat→Rat} {v6:Int×(List Nat)×(List Int)×(List (List Rat))} (h6:v6.1=(n:Int)) (hZ:Sm n B Z) (hB:B≤200000000) (hn:n≤1000) (hm:most≤100000) {K:Nat} (hK:5000≤K):∀(f cnt fu:Nat) (rs:List (List Rat)) (od:Nat→Nat) (T:Nat→Nat→Rat) (b:Nat→Nat) (r c:Nat),cnt+f=most+1→0<f→f≤fu→aAA n (2*n+2) rs od T→LI n Z T b r c→
  cN K (most:Int) v6 fu (mp od n) (mp (fun i=>((b i:Nat):Int)) n) rs (r:Int) (c:Int) (cnt:Int)=some (.ret (lem n most f T b r c cnt))
 |0,cnt,fu,rs,od,T,b,r,c,hc,h0,hf,hR,h=>by omega
 |f+1,cnt,fu,rs,od,T,b,r,c,hc,h0,hf,hR,h=>by
  obtain⟨fu',rfl,hf'⟩:=bJ (show f<fu by omega)
  unfold lem
  by_cases e:cnt=most
  ·rw [if_pos e]
   simp only [cN,qT (show(cnt:Int)=(most:Int) by omega),bX]
  ·rw [if_neg e]
   have hcw:=h.hc
   have hT:=hZ T b h.ti
   have ti':=h.ti.pivot h.hr (show c<2*n+2 by omega) h.hp
   have hT':=hZ _ _ ti'
   obtain⟨rs',od',p1,p2⟩:=aM2 (b:=b) (a2:=v6.1) hR hT h.hr (show c<2*n+2 by omega) hB (by omega) (by omega) (K:=K) (by omega)
   have hbr:=h.hb r h.hr
   have c1:aR (2*(n:Int))=some (2*(n:Int)):=oZ (by omega)
   rw [h6] at p1
   simp only [cN,qF (show(cnt:Int)≠(most:Int) by omega),bR,h6,p1,oB,c1]
   by_cases e2:b r=2*n
   ·rw [if_pos e2]
    simp only [qT (show((b r:Nat):Int)=2*(n:Int) by omega),bX,aI6 (b:=nP b r c) p2 hn (show 2000≤K by omega),oB,uZ (i:=cnt) (by omega)]
   ·rw [if_neg e2]
    have hlt:=aIs hbr e2
    have c2:aR (((b r:Nat):Int)+(n:Int))=some ((b r+n:Nat):Int):=by rw [oZ (by omega)];rfl
    have hsel:=aFM (v6:=v6) (x:=((b r:Nat):Int)) (bs:=mp (fun i=>((nP b r c i:Nat):Int)) n) h6 p2 hT' (show(if b r<n then b r+n else b r-n)<2*n+2 by omega) hB hn (show 2000≤K by omega) n 0 K none (by omega) (by omega) (fun q hq=>by cases hq)
    simp only [Int.natCast_zero,show enc none=(-1:Int) from rfl] at hsel
    have key:jQ K v6 (cnt:Int) (((b r:Nat):Int),mp od' n,mp (fun i=>((nP b r c i:Nat):Int)) n,rs') (cN K (most:Int) v6 fu') (((if b r<n then b r+n else b r-n:Nat)):Int)=some (.ret (match sel (sO T r c) n (if b r<n then b r+n else b r-n) n 0 none with|none=>(⟨[],[],0⟩,15)|some r'=>lem n most f (sO T r c) (nP b r c) r' (if b r<n then b r+n else b r-n) (cnt+1))):=by
     simp only [jQ,hsel,oB,nV]
     cases hs:sel (sO T r c) n (if b r<n then b r+n else b r-n) n 0 none with
     |none=>rfl
     |some r'=>
      simp only [enc,dF (show¬(r':Int)<0 by omega),bR,uZ (i:=cnt) (by omega),oB]
      exact aRd h6 hZ hB hn hm hK f (cnt+1) fu' rs' od' _ _ r' _ (by omega) (by omega) (by omega) p2 (h.next e2 hs)
    simp only [qF (show((b r:Nat):Int)≠2*(n:Int) by omega),bR,c2,oB]
    by_cases h3:b r<n
    ·rw [if_pos h3] at key
     simp only [dF (show¬(n:Int)≤((b r:Nat):Int) by omega),bR,if_pos h3]
     exact key
    ·rw [if_neg h3] at key
     have c3:aR (((b r:Nat):Int)-(n:Int))=some ((b r-n:Nat):Int):=by rw [show((b r:Nat):Int)-(n:Int)=((b r-n:Nat):Int) by omega,oZ (by omega)]
     simp only [dT (show(n:Int)≤((b r:Nat):Int) by omega),bX,c3,oB,if_neg h3]
     exact key
theorem aQP {n most B:Nat} {Z:Nat→Nat→Rat} {a1:List Rat} (h1:a1.length=n) (hZ:Sm n B Z) (hB:B≤200000000) (hn:n≤1000) (hm:most≤100000) {K:Nat} (hK:5000≤K):∀(f cnt fu:Nat) (T:Nat→Nat→Rat) (b:Nat→Nat) (r c:Nat),cnt+f=most+1→0<f→f≤fu→LI n Z T b r c→
  fH K a1 (most:Int) fu (mp (fun i=>((b i:Nat):Int)) n) (mx T n (2*n+2)) (r:Int) (c:Int) (cnt:Int)=some (.ret (lem n most f T b r c cnt))
 |0,cnt,fu,T,b,r,c,hc,h0,hf,h=>by omega
 |f+1,cnt,fu,T,b,r,c,hc,h0,hf,h=>by
  obtain⟨fu',rfl,hf'⟩:=bJ (show f<fu by omega)
  unfold lem
  by_cases e:cnt=most
  ·rw [if_pos e]
   simp only [fH,qT (show(cnt:Int)=(most:Int) by omega),bX]
  ·rw [if_neg e]
   have hcw:=h.hc
   have hr:=h.hr
   have hT:=hZ T b h.ti
   have ti':=h.ti.pivot h.hr (show c<2*n+2 by omega) h.hp
   have hT':=hZ _ _ ti'
   have p1:=aNv hT h.hr (show c<2*n+2 by omega) hB (by omega) (by omega) (K:=K) (by omega)
   have hbr:=h.hb r h.hr
   have c1:aR (2*(n:Int))=some (2*(n:Int)):=oZ (by omega)
   have e4:mp (nP (fun i=>((b i:Nat):Int)) r (c:Int)) n=mp (fun i=>((nP b r c i:Nat):Int)) n:=iV fun i _=>by
    by_cases e:i=r
    ·rw [e,bG,bG]
    ·rw [cP e,cP e]
   simp only [fH,qF (show(cnt:Int)≠(most:Int) by omega),bR,p1,oB,uZ (i:=cnt) (by omega),jP (f:=fun i=>((b i:Nat):Int)) hr,aAg (f:=fun i=>((b i:Nat):Int)) hr,e4,h1,c1]
   by_cases e2:b r=2*n
   ·rw [if_pos e2]
    have hb2:∀i,i<n→nP b r c i<2*n:=fun i hi=>by
     by_cases ei:i=r
     ·rw [ei,bG]
      have:=h.fst
      by_cases ec:c=2*n
      ·exact absurd e2 (this ec)
      ·omega
     ·rw [cP ei]
      have h5:=h.hb i hi
      by_cases e6:b i=2*n
      ·exact absurd (h.ti.inj hi hr (by rw [e6,e2])) ei
      ·omega
    have hs:=aFy (T:=sO T r c) h1 hb2 hn K n 0 K (by omega) (by omega)
    simp only [Int.natCast_zero] at hs
    have z1:mp (fun _=>(0:Rat)) n=mp (swv (sO T r c) (nP b r c) n 0) n:=rfl
    have hs':dM K a1 (mx (sO T r c) n (2*n+2)) (mp (fun i=>((nP b r c i:Nat):Int)) n) K (mp (fun _=>(0:Rat)) n) (mp (fun _=>(0:Rat)) n) 0=some (mp (swv (sO T r c) (nP b r c) n n) n,mp (szv (sO T r c) (nP b r c) n n) n):=hs
    simp only [qT (show((b r:Nat):Int)=2*(n:Int) by omega),bX,aHH (z:=(0:Rat)) (n:=n) (by omega),oB,hs',m8]
   ·rw [if_neg e2]
    have hlt:=aIs hbr e2
    have c2:aR (((b r:Nat):Int)+(n:Int))=some ((b r+n:Nat):Int):=by rw [oZ (by omega)];rfl
    have c3:zP ((b r+n:Nat):Int) (2*(n:Int))=some (((if b r<n then b r+n else b r-n:Nat)):Int):=by
     rw [tL (by omega) (by omega)]
     congr 1
     by_cases h3:b r<n
     ·rw [if_pos h3,Int.emod_eq_of_lt (by omega) (by omega)]
     ·rw [if_neg h3,show((b r+n:Nat):Int)=((b r-n:Nat):Int)+2*(n:Int) by omega,Int.add_emod_right,Int.emod_eq_of_lt (by omega) (by omega)]
    have hsel:=aFA h1 hT' (show(if b r<n then b r+n else b r-n)<2*n+2 by omega) hB hn (show 2000≤K by omega) n 0 K none (by omega) (by omega) (fun q hq=>by cases hq)
    simp only [Int.natCast_zero,show enc none=(-1:Int) from rfl] at hsel
    simp only [qF (show((b r:Nat):Int)≠2*(n:Int) by omega),bR,c2,oB,c3,hsel,nC]
    cases hs:sel (sO T r c) n (if b r<n then b r+n else b r-n) n 0 none with
    |none=>rfl
    |some r'=>
     simp only [enc,dF (show¬(r':Int)<0 by omega),bR]
     exact aQP h1 hZ hB hn hm hK f (cnt+1) fu' _ _ r' _ (by omega) (by omega) (by omega) (h.next e2 hs)
end Go.Proofs.YtolfcbpgmfbgmaaGreat
set_option linter.unusedVariables false
namespace Go.Proofs.YtolfcbpgmfbgmaaGreat
theorem aHa {l:List Rat} {B:Nat} (hl:Bds B l) (hB:B≤1073741824) (hn:l.length≤1000) (K:Nat):∀(t i k:Nat),i+t=l.length→t<k→jT K l k (i:Int)=some (.go ())
 |0,i,k,hi,hk=>by
  obtain⟨k',rfl,_⟩:=bJ hk
  simp only [jT,dF (show¬(i:Int)<(l.length:Int) by omega),bR]
 |t+1,i,k,hi,hk=>by
  obtain⟨k',rfl,_⟩:=bJ hk
  simp only [jT,dT (show(i:Int)<(l.length:Int) by omega),bX,aPT (l:=l) (i:=i) (by omega),oB,aJ5 (hl _ (aGd (l:=l) (i:=i) (by omega))) hB,Bool.not_true,bR,uZ (i:=i) (by omega)]
  exact aHa hl hB hn K t (i+1) k' (by omega) (by omega)
theorem aBp {l:List Rat} {B:Nat} (hl:Bds B l) (hB:B≤1073741824) (hn:l.length≤1000) {K:Nat} (hK:l.length<K):kM K l=some true:=by
 have:=aHa hl hB hn K l.length 0 K (by omega) hK
 simp only [Int.natCast_zero] at this
 simp only [kM,this,oB,qY]
theorem aFC {l:List Rat} {B:Nat} (hl:Bds B l) (hB:B≤1073741824) (hn:l.length≤1000) (K:Nat):∀(t i k:Nat),i+t=l.length→t<k→jJ K l k (i:Int)=some (.go ())
 |0,i,k,hi,hk=>by
  obtain⟨k',rfl,_⟩:=bJ hk
  simp only [jJ,dF (show¬(i:Int)<(l.length:Int) by omega),bR]
 |t+1,i,k,hi,hk=>by
  obtain⟨k',rfl,_⟩:=bJ hk
  simp only [jJ,dT (show(i:Int)<(l.length:Int) by omega),bX,aPT (l:=l) (i:=i) (by omega),oB,aJ5 (hl _ (aGd (l:=l) (i:=i) (by omega))) hB,Bool.not_true,bR,uZ (i:=i) (by omega)]
  exact aFC hl hB hn K t (i+1) k' (by omega) (by omega)
theorem aAa {l:List Rat} {B:Nat} (hl:Bds B l) (hB:B≤1073741824) (hn:l.length≤1000) {K:Nat} (hK:l.length<K):lF K l=some true:=by
 have:=aFC hl hB hn K l.length 0 K (by omega) hK
 simp only [Int.natCast_zero] at this
 simp only [lF,this,oB,pZ]
theorem aFG {M:Nat→Nat→Rat} {q:Nat→Rat} {n B:Nat} (hM:z6 n n B M) (hB:B≤1073741824) (hn:n≤32) {K:Nat} (hK:100≤K):∀(t i k:Nat),i+t=n→t<k→dU K (mx M n n) (mp q n) k (i:Int)=some (.go ())
 |0,i,k,hi,hk=>by
  obtain⟨k',rfl,_⟩:=bJ hk
  simp only [dU,rY,dF (show¬(i:Int)<(n:Int) by omega),bR]
 |t+1,i,k,hi,hk=>by
  obtain⟨k',rfl,_⟩:=bJ hk
  have hin:i<n:=by omega
  have g:=aBp (l:=mp (M i) n) (wK fun c hc=>hM i c hin hc) hB (by rw [bB];omega) (K:=K) (by rw [bB];omega)
  simp only [dU,rY,dT (show(i:Int)<(n:Int) by omega),bX,aAS (g:=M) (w:=n) hin,oB,bB,nF (rfl:(n:Int)=(n:Int)),bR,g,Bool.not_true,uZ (i:=i) (by omega)]
  exact aFG hM hB hn hK t (i+1) k' (by omega) (by omega)
theorem aAs {M:Nat→Nat→Rat} {q:Nat→Rat} {n B:Nat} (hM:z6 n n B M) (hq:∀i,i<n→Bd B (q i)) (hB:B≤1073741824) (hn:n≤32) {K:Nat} (hK:100≤K):dX K (mx M n n) (mp q n)=some true:=by
 have g:=aBp (l:=mp q n) (wK hq) hB (by rw [bB];omega) (K:=K) (by rw [bB];omega)
 have e:=aFG (q:=q) hM hB hn hK n 0 K (by omega) (by omega)
 simp only [Int.natCast_zero] at e
 simp only [dX,rY,bB,nF (rfl:(n:Int)=(n:Int)),bR,dF (show¬(32:Int)<(n:Int) by omega),g,oB,Bool.not_true,e,p7]
theorem aEU {M:Nat→Nat→Rat} {q:Nat→Rat} {n B:Nat} (hM:z6 n n B M) (hB:B≤1073741824) (hn:n≤32) {K:Nat} (hK:100≤K):∀(t i k:Nat),i+t=n→t<k→dK K (mx M n n) (mp q n) k (i:Int)=some (.go ())
 |0,i,k,hi,hk=>by
  obtain⟨k',rfl,_⟩:=bJ hk
  simp only [dK,rY,dF (show¬(i:Int)<(n:Int) by omega),bR]
 |t+1,i,k,hi,hk=>by
  obtain⟨k',rfl,_⟩:=bJ hk
  have hin:i<n:=by omega
  have g:=aAa (l:=mp (M i) n) (wK fun c hc=>hM i c hin hc) hB (by rw [bB];omega) (K:=K) (by rw [bB];omega)
  simp only [dK,rY,dT (show(i:Int)<(n:Int) by omega),bX,aAS (g:=M) (w:=n) hin,oB,bB,nF (rfl:(n:Int)=(n:Int)),bR,g,Bool.not_true,uZ (i:=i) (by omega)]
  exact aEU hM hB hn hK t (i+1) k' (by omega) (by omega)
theorem yV {M:Nat→Nat→Rat} {q:Nat→Rat} {n B:Nat} (hM:z6 n n B M) (hq:∀i,i<n→Bd B (q i)) (hB:B≤1073741824) (hn:n≤32) {K:Nat} (hK:100≤K):fO K (mx M n n) (mp q n)=some true:=by
 have g:=aAa (l:=mp q n) (wK hq) hB (by rw [bB];omega) (K:=K) (by rw [bB];omega)
 have e:=aEU (q:=q) hM hB hn hK n 0 K (by omega) (by omega)
 simp only [Int.natCast_zero] at e
 simp only [fO,rY,bB,nF (rfl:(n:Int)=(n:Int)),bR,dF (show¬(32:Int)<(n:Int) by omega),g,oB,Bool.not_true,e,oO]
def ng (q:Nat→Rat):Nat→Nat→Bool
 |0,_=>false
 |t+1,i=>bif decide ((q i).num.sign<0) then true else ng q t (i+1)
theorem aK9 {q:Nat→Rat} {n B:Nat} (hq:∀i,i<n→Bd B (q i)) (hB:B≤1073741824) (hn:n≤1000) (K:Nat):∀(t i k:Nat),i+t=n→t<k→gM K (mp q n) k (i:Int)=some (bif ng q t i then .ret true else .go ())
 |0,i,k,hi,hk=>by
  obtain⟨k',rfl,_⟩:=bJ hk
  simp only [gM,bB,dF (show¬(i:Int)<(n:Int) by omega),bR,ng]
 |t+1,i,k,hi,hk=>by
  obtain⟨k',rfl,_⟩:=bJ hk
  have hin:i<n:=by omega
  simp only [gM,bB,dT (show(i:Int)<(n:Int) by omega),bX,jP (f:=q) hin,oB,wS (hq i hin) hB,ng]
  by_cases h:(q i).num.sign<0
  ·simp only [dT h,bX]
  ·simp only [dF h,bR,uZ (i:=i) (by omega),oB]
   exact aK9 hq hB hn K t (i+1) k' (by omega) (by omega)
theorem aJm {q:Nat→Rat} {n B:Nat} (hq:∀i,i<n→Bd B (q i)) (hB:B≤1073741824) (hn:n≤1000) (K:Nat):∀(t i k:Nat),i+t=n→t<k→fS K (mp q n) k (i:Int)=some (bif ng q t i then .ret true else .go ())
 |0,i,k,hi,hk=>by
  obtain⟨k',rfl,_⟩:=bJ hk
  simp only [fS,bB,dF (show¬(i:Int)<(n:Int) by omega),bR,ng]
 |t+1,i,k,hi,hk=>by
  obtain⟨k',rfl,_⟩:=bJ hk
  have hin:i<n:=by omega
  simp only [fS,bB,dT (show(i:Int)<(n:Int) by omega),bX,jP (f:=q) hin,oB,wS (hq i hin) hB,ng]
  by_cases h:(q i).num.sign<0
  ·simp only [dT h,bX]
  ·simp only [dF h,bR,uZ (i:=i) (by omega),oB]
   exact aJm hq hB hn K t (i+1) k' (by omega) (by omega)
theorem aEo {q:Nat→Rat} {n B:Nat} (hq:∀i,i<n→Bd B (q i)) (hB:B≤1073741824) (hn:n≤1000) {K:Nat} (hK:n<K):gR K (mp q n)=some (ng q n 0)∧iQ K (mp q n)=some (ng q n 0):=by
 have e1:=aK9 hq hB hn K n 0 K (by omega) hK
 have e2:=aJm hq hB hn K n 0 K (by omega) hK
 simp only [Int.natCast_zero] at e1 e2
 constructor
 ·simp only [gR,e1,oB,mY]
  cases ng q n 0<;>rfl
 ·simp only [iQ,e2,oB,mF]
  cases ng q n 0<;>rfl
def rw1 (M:Nat→Nat→Rat) (n i k c:Nat):Rat:=if n≤c∧c<n+k then -(M i (c-n)) else nP z0 i 1 c
theorem aHt {M:Nat→Nat→Rat} {n i k:Nat} (hi:i<n):mp (nP (rw1 M n i k) (n+k) (-(M i k))) (2*n+2)=mp (rw1 M n i (k+1)) (2*n+2):=iV fun c _=>by
 by_cases e:c=n+k
 ·subst e;rw [bG];unfold rw1;rw [if_pos ⟨by omega,by omega⟩,Nat.add_sub_cancel_left]
 ·rw [cP e];unfold rw1
  by_cases h:n≤c∧c<n+k
  ·rw [if_pos h,if_pos ⟨h.1,by omega⟩]
  ·rw [if_neg h,if_neg (by omega)]
theorem aJs {M:Nat→Nat→Rat} {q:Nat→Rat} {n i:Nat} (hi:i<n):mp (nP (nP (rw1 M n i n) (2*n) (-1)) (2*n+1) (q i)) (2*n+2)=mp (uL M q n i) (2*n+2):=iV fun c hc=>by
 unfold uL
 by_cases e1:c=2*n+1
 ·subst e1;rw [bG,if_neg (by omega),if_neg (by omega),if_neg (by omega)]
 ·rw [cP e1]
  by_cases e2:c=2*n
  ·subst e2;rw [bG,if_neg (by omega),if_neg (by omega),if_pos rfl]
  ·rw [cP e2]
   unfold rw1
   by_cases h:c<n
   ·rw [if_neg (by omega),if_pos h]
    by_cases e3:c=i
    ·subst e3;rw [bG,if_pos rfl]
    ·rw [cP e3,if_neg (fun e=>e3 e.symm)];rfl
   ·rw [if_pos ⟨by omega,by omega⟩,if_neg h,if_pos (by omega)]
theorem aIW {M:Nat→Nat→Rat} {q:Nat→Rat} {n i B:Nat} (hM:z6 n n B M) (hB:B≤1073741824) (hi:i<n) (hn:n≤1000) (K:Nat):∀(t k fu:Nat),k+t=n→t<fu→eP K (mx M n n) (mp q n) (i:Int) fu (mp (rw1 M n i k) (2*n+2)) (k:Int)=some (mp (rw1 M n i n) (2*n+2))
 |0,k,fu,hk,hf=>by
  obtain⟨fu',rfl,_⟩:=bJ hf
  have e:k=n:=by omega
  subst e
  simp only [eP,bB,dF (show¬(k:Int)<(k:Int) by omega),bR]
 |t+1,k,fu,hk,hf=>by
  obtain⟨fu',rfl,_⟩:=bJ hf
  have hkn:k<n:=by omega
  have c1:aR ((n:Int)+(k:Int))=some ((n+k:Nat):Int):=by rw [oZ (by omega)];rfl
  simp only [eP,bB,dT (show(k:Int)<(n:Int) by omega),bX,c1,oB,aAS (g:=M) (w:=n) hi,jP (f:=M i) hkn,aDZ (hM i k hi hkn) hB,jP (f:=rw1 M n i k) (n:=2*n+2) (i:=n+k) (by omega),aAg (f:=rw1 M n i k) (n:=2*n+2) (i:=n+k) (by omega),aHt hi,uZ (i:=k) (by omega)]
  exact aIW hM hB hi hn K t (k+1) fu' (by omega) (by omega)
theorem aHL {M:Nat→Nat→Rat} {q:Nat→Rat} {n i B:Nat} (hM:z6 n n B M) (hB:B≤1073741824) (hi:i<n) (hn:n≤1000) (K:Nat):∀(t k fu:Nat),k+t=n→t<fu→gE K (mx M n n) (mp q n) (i:Int) fu (mp (rw1 M n i k) (2*n+2)) (k:Int)=some (mp (rw1 M n i n) (2*n+2))
 |0,k,fu,hk,hf=>by
  obtain⟨fu',rfl,_⟩:=bJ hf
  have e:k=n:=by omega
  subst e
  simp only [gE,bB,dF (show¬(k:Int)<(k:Int) by omega),bR]
 |t+1,k,fu,hk,hf=>by
  obtain⟨fu',rfl,_⟩:=bJ hf
  have hkn:k<n:=by omega
  have c1:aR ((n:Int)+(k:Int))=some ((n+k:Nat):Int):=by rw [oZ (by omega)];rfl
  simp only [gE,bB,dT (show(k:Int)<(n:Int) by omega),bX,c1,oB,aAS (g:=M) (w:=n) hi,jP (f:=M i) hkn,aDZ (hM i k hi hkn) hB,jP (f:=rw1 M n i k) (n:=2*n+2) (i:=n+k) (by omega),aAg (f:=rw1 M n i k) (n:=2*n+2) (i:=n+k) (by omega),aHt hi,uZ (i:=k) (by omega)]
  exact aHL hM hB hi hn K t (k+1) fu' (by omega) (by omega)
theorem aQ1:qof (-1) 1=some (-1):=by
 rw [aE7 (by omega) (by omega)]
 exact congrArg some (by decide+kernel)
theorem aLG {M:Nat→Nat→Rat} {q:Nat→Rat} {n B:Nat} (hM:z6 n n B M) (hB:B≤1073741824) (hn:n≤1000) {K:Nat} (hK:n<K):∀(t i fu:Nat),i+t=n→t<fu→d8 K (mx M n n) (mp q n) fu (mp (fun j=>((j:Nat):Int)) i) (mp (fun j=>j) i) (mx (uL M q n) i (2*n+2)) (i:Int)=some (mp (fun j=>((j:Nat):Int)) n,mp (fun j=>j) n,mx (uL M q n) n (2*n+2))
 |0,i,fu,hi,hf=>by
  obtain⟨fu',rfl,_⟩:=bJ hf
  have e:i=n:=by omega
  subst e
  simp only [d8,bB,dF (show¬(i:Int)<(i:Int) by omega),bR]
 |t+1,i,fu,hi,hf=>by
  obtain⟨fu',rfl,_⟩:=bJ hf
  have hin:i<n:=by omega
  have c1:aR (2*(n:Int))=some ((2*n:Nat):Int):=by rw [oZ (by omega)];rfl
  have c2:aR (((2*n:Nat):Int)+2)=some ((2*n+2:Nat):Int):=by rw [oZ (by omega)];rfl
  have c3:aR (((2*n:Nat):Int)+1)=some ((2*n+1:Nat):Int):=by rw [oZ (by omega)];rfl
  have e116:=aIW (q:=q) hM hB hin hn K n 0 K (by omega) hK
  have e0:mp (rw1 M n i 0) (2*n+2)=mp (nP z0 i 1) (2*n+2):=iV fun c _=>if_neg (by omega)
  rw [e0] at e116
  simp only [Int.natCast_zero] at e116
  have a1:sD (mp (fun j=>j) i) [i]=some (mp (fun j=>j) (i+1)):=apM (g:=fun j=>j) (by omega)
  have a2:sD (mp (fun j=>((j:Nat):Int)) i) [(i:Int)]=some (mp (fun j=>((j:Nat):Int)) (i+1)):=apM (g:=fun j=>((j:Nat):Int)) (by omega)
  have a3:mx (uL M q n) i (2*n+2)++[mp (uL M q n i) (2*n+2)]=mx (uL M q n) (i+1) (2*n+2):=(aD0 (fun i=>mp (uL M q n i) (2*n+2)) i).symm
  simp only [d8,bB,dT (show(i:Int)<(n:Int) by omega),bX,c1,c2,aHH (z:=(0:Rat)) (n:=2*n+2) (by omega),aL5,oB,jP (f:=fun _=>(0:Rat)) (n:=2*n+2) (i:=i) (by omega),aAg (f:=fun _=>(0:Rat)) (n:=2*n+2) (i:=i) (by omega),show nP (fun _=>(0:Rat)) i 1=nP z0 i 1 from rfl,e116,lV,aQ1,jP (f:=rw1 M n i n) (n:=2*n+2) (i:=2*n) (by omega),aAg (f:=rw1 M n i n) (n:=2*n+2) (i:=2*n) (by omega),c3,jP (f:=q) hin,jP (f:=nP (rw1 M n i n) (2*n) (-1)) (n:=2*n+2) (i:=2*n+1) (by omega),aAg (f:=nP (rw1 M n i n) (2*n) (-1)) (n:=2*n+2) (i:=2*n+1) (by omega),aJs hin,rY,a1,a2,a3,uZ (i:=i) (by omega)]
  exact aLG hM hB hn hK t (i+1) fu' (by omega) (by omega)
theorem aJ9 {M:Nat→Nat→Rat} {q:Nat→Rat} {n B:Nat} (hM:z6 n n B M) (hB:B≤1073741824) (hn:n≤1000) {K:Nat} (hK:n<K):∀(t i fu:Nat),i+t=n→t<fu→fD K (mx M n n) (mp q n) 1 fu (mp (fun j=>((j:Nat):Int)) i) (mx (uL M q n) i (2*n+2)) (i:Int)=some (mp (fun j=>((j:Nat):Int)) n,mx (uL M q n) n (2*n+2))
 |0,i,fu,hi,hf=>by
  obtain⟨fu',rfl,_⟩:=bJ hf
  have e:i=n:=by omega
  subst e
  simp only [fD,bB,dF (show¬(i:Int)<(i:Int) by omega),bR]
 |t+1,i,fu,hi,hf=>by
  obtain⟨fu',rfl,_⟩:=bJ hf
  have hin:i<n:=by omega
  have c1:aR (2*(n:Int))=some ((2*n:Nat):Int):=by rw [oZ (by omega)];rfl
  have c2:aR (((2*n:Nat):Int)+2)=some ((2*n+2:Nat):Int):=by rw [oZ (by omega)];rfl
  have c3:aR (((2*n:Nat):Int)+1)=some ((2*n+1:Nat):Int):=by rw [oZ (by omega)];rfl
  have e318:=aHL (q:=q) hM hB hin hn K n 0 K (by omega) hK
  have e0:mp (rw1 M n i 0) (2*n+2)=mp (nP z0 i 1) (2*n+2):=iV fun c _=>if_neg (by omega)
  rw [e0] at e318
  simp only [Int.natCast_zero] at e318
  have a2:sD (mp (fun j=>((j:Nat):Int)) i) [(i:Int)]=some (mp (fun j=>((j:Nat):Int)) (i+1)):=apM (g:=fun j=>((j:Nat):Int)) (by omega)
  have a3:sD (mx (uL M q n) i (2*n+2)) [mp (uL M q n i) (2*n+2)]=some (mx (uL M q n) (i+1) (2*n+2)):=apM (g:=fun i=>mp (uL M q n i) (2*n+2)) (by omega)
  simp only [fD,bB,dT (show(i:Int)<(n:Int) by omega),bX,c1,c2,aHH (z:=(0:Rat)) (n:=2*n+2) (by omega),oB,jP (f:=fun _=>(0:Rat)) (n:=2*n+2) (i:=i) (by omega),aAg (f:=fun _=>(0:Rat)) (n:=2*n+2) (i:=i) (by omega),show nP (fun _=>(0:Rat)) i 1=nP z0 i 1 from rfl,e318,nG,aQ1,jP (f:=rw1 M n i n) (n:=2*n+2) (i:=2*n) (by omega),aAg (f:=rw1 M n i n) (n:=2*n+2) (i:=2*n) (by omega),c3,jP (f:=q) hin,jP (f:=nP (rw1 M n i n) (2*n) (-1)) (n:=2*n+2) (i:=2*n+1) (by omega),aAg (f:=nP (rw1 M n i n) (2*n) (-1)) (n:=2*n+2) (i:=2*n+1) (by omega),aJs hin,a2,a3,uZ (i:=i) (by omega)]
  exact aJ9 hM hB hn hK t (i+1) fu' (by omega) (by omega)
end Go.Proofs.YtolfcbpgmfbgmaaGreat
set_option linter.unusedVariables false
namespace Go.Proofs.YtolfcbpgmfbgmaaGreat
theorem aJh {T:Nat→Nat→Rat} {n i:Nat} {c:Rat}:∀t j,lx T n i c i c t j=false
 |0,_=>rfl
 |t+1,j=>by unfold lx;rw [decide_eq_true (rfl:T i (nI n j)/c=T i (nI n j)/c),bX];exact aJh t (j+1)
def zA (T:Nat→Nat→Rat) (n:Nat):Nat→Nat→Nat→Nat
 |0,_,r=>r
 |t+1,i,r=>bif les T n i 1 r 1 then zA T n t (i+1) i else zA T n t (i+1) r
theorem aBJ {T:Nat→Nat→Rat} {n:Nat}:∀t i r,r<n→i+t≤n→zA T n t i r<n
 |0,i,r,hr,_=>hr
 |t+1,i,r,hr,h=>by
  unfold zA
  cases les T n i 1 r 1
  ·exact aBJ t (i+1) r hr (by omega)
  ·exact aBJ t (i+1) i (by omega) (by omega)
theorem aMR {n B:Nat} {rs:List (List Rat)} {od:Nat→Nat} {T:Nat→Nat→Rat} {bs:List Int} (h:aAA n (2*n+2) rs od T) (hT:z6 n (2*n+2) B T) (hB:B≤200000000) (hn:n≤1000) {K:Nat} (hK:2000≤K):∀(t i fu r:Nat),i+t=n→t<fu→r<n→f7 K ((n:Int),mp od n,bs,rs) 1 fu (r:Int) (i:Int)=some ((zA T n t i r:Nat):Int)
 |0,i,fu,r,hi,hf,hr=>by
  obtain⟨fu',rfl,_⟩:=bJ hf
  simp only [f7,dF (show¬(i:Int)<(n:Int) by omega),bR,zA]
 |t+1,i,fu,r,hi,hf,hr=>by
  obtain⟨fu',rfl,_⟩:=bJ hf
  have hin:i<n:=by omega
  simp only [f7,dT (show(i:Int)<(n:Int) by omega),bX,aHP (a6:=bs) h hT hin hr aDy aDy (show B+8≤500000000 by omega) hn hK,oB,uZ (i:=i) (by omega),zA]
  cases les T n i 1 r 1
  ·simp only [bR];exact aMR h hT hB hn hK t (i+1) fu' r (by omega) (by omega) hr
  ·simp only [bX];exact aMR h hT hB hn hK t (i+1) fu' i (by omega) (by omega) hin
theorem aLX {n B:Nat} {T:Nat→Nat→Rat} {a1:List Rat} (h1:a1.length=n) (hT:z6 n (2*n+2) B T) (hB:B≤200000000) (hn:n≤1000) {K:Nat} (hK:2000≤K):∀(t i fu r:Nat),i+t=n→t<fu→r<n→fE K a1 1 (mx T n (2*n+2)) fu (r:Int) (i:Int)=some ((zA T n t i r:Nat):Int)
 |0,i,fu,r,hi,hf,hr=>by
  obtain⟨fu',rfl,_⟩:=bJ hf
  simp only [fE,h1,dF (show¬(i:Int)<(n:Int) by omega),bR,zA]
 |t+1,i,fu,r,hi,hf,hr=>by
  obtain⟨fu',rfl,_⟩:=bJ hf
  have hin:i<n:=by omega
  simp only [fE,h1,dT (show(i:Int)<(n:Int) by omega),bX,aAS (g:=T) (w:=2*n+2) hin,aAS (g:=T) (w:=2*n+2) hr,oB,aGv hT hin aDy (by omega) (by omega) hn hK,aGv hT hr aDy (by omega) (by omega) hn hK,aFV hT hin hr aDy aDy (show B+8≤500000000 by omega) hn hK,uZ (i:=i) (by omega),zA]
  cases les T n i 1 r 1
  ·simp only [bR];exact aLX h1 hT hB hn hK t (i+1) fu' r (by omega) (by omega) hr
  ·simp only [bX];exact aLX h1 hT hB hn hK t (i+1) fu' i (by omega) (by omega) hin
theorem aD5 {q:Nat→Rat} {n:Nat} (h:ng q n 0=true):0<n:=by
 cases n with
 |zero=>exact absurd (show false=true from h) (by decide)
 |succ m=>exact Nat.succ_pos m
def z4 (M:Nat→Nat→Rat) (q:Nat→Rat) (n most:Nat):aN×Int:=
 bif ng q n 0 then lem n most (most+1) (uL M q n) (fun j=>j) (zA (uL M q n) n n 0 0) (2*n) 0 else(⟨mp z0 n,mp q n,0⟩,0)
theorem aGx {M:Nat→Nat→Rat} {q:Nat→Rat} {n r:Nat} (hr:r<n):LI n (uL M q n) (uL M q n) (fun j=>j) r (2*n):=by
 refine⟨aLL,hr,Nat.le_refl _,?_,fun j hj=>by omega,fun _=>by omega⟩
 unfold uL
 rw [if_neg (by omega),if_neg (by omega),if_pos rfl];decide
theorem aGH {T:Nat→Nat→Rat} {n w:Nat}:aAA n w (mx T n w) (fun j=>j) T:=
 ⟨fun i hi=>by rw [rY];exact hi,fun i j _ _ e=>e,fun i hi=>by unfold mx;rw [List.getD_eq_getElem?_getD,zY hi];rfl⟩
theorem aLh {M:Nat→Nat→Rat} {q:Nat→Rat} {n:Nat}:∀i,i≤n→swv (uL M q n) (fun j=>j) n i=(fun j=>if j<i then q j else 0)∧szv (uL M q n) (fun j=>j) n i=z0
 |0,_=>⟨funext fun j=>by show(0:Rat)=_;rw [if_neg (show¬j<0 by omega)],rfl⟩
 |i+1,h=>by
  obtain⟨e1,e2⟩:=aLh (M:=M) (q:=q) (n:=n) i (by omega)
  have e3:uL M q n i (2*n+1)=q i:=by unfold uL;rw [if_neg (show¬2*n+1<n by omega),if_neg (show¬2*n+1<2*n by omega),if_neg (show¬2*n+1=2*n by omega)]
  unfold swv szv
  rw [if_pos (show i<n by omega),if_pos (show i<n by omega),e1,e2,e3]
  refine⟨funext fun j=>?_,rfl⟩
  by_cases e:j=i
  ·subst e;rw [bG,if_pos (by omega)]
  ·rw [cP e]
   by_cases e4:j<i
   ·rw [if_pos e4,if_pos (by omega)]
   ·rw [if_neg e4,if_neg (by omega)]
theorem aKu {M:Nat→Nat→Rat} {q:Nat→Rat} {n B most:Nat} (hM:z6 n n B M) (hq:∀i,i<n→Bd B (q i)) (hZ:Sm n B (uL M q n)) (hB:B≤200000000) (hn:n≤32) (hm:most≤100000) {K:Nat} (hK:5000≤K) (hK2:most<K):
  gF K (mx M n n) (mp q n) (most:Int)=some (z4 M q n most)∧jE K (mx M n n) (mp q n) (most:Int)=some (z4 M q n most):=by
 have hng:=aEo hq (by omega) (show n≤1000 by omega) (show n<K by omega)
 have hT:=hZ _ _ aLL
 have s1:=aLG (q:=q) hM (by omega) (show n≤1000 by omega) (show n<K by omega) n 0 K (by omega) (by omega)
 have s2:=aJ9 (q:=q) hM (by omega) (show n≤1000 by omega) (show n<K by omega) n 0 K (by omega) (by omega)
 have z1:mp (fun j=>((j:Nat):Int)) 0=[]:=rfl
 have z2:mp (fun j:Nat=>j) 0=[]:=rfl
 have z3:mx (uL M q n) 0 (2*n+2)=[]:=rfl
 simp only [Int.natCast_zero,z1,z2,z3] at s1 s2
 have st:mJ K (mx M n n) (mp q n)=some ((n:Int),mp (fun j=>j) n,mp (fun j=>((j:Nat):Int)) n,mx (uL M q n) n (2*n+2)):=by
  simp only [mJ,s1,oB,mH,bB]
 have c1:aR (2*(n:Int))=some ((2*n:Nat):Int):=by rw [oZ (by omega)];rfl
 by_cases hneg:ng q n 0=true
 ·have hn0:=aD5 hneg
  have hr:=aBJ (T:=uL M q n) n 0 0 hn0 (by omega)
  have l1:=aMR (bs:=mp (fun j=>((j:Nat):Int)) n) (aGH (T:=uL M q n)) hT hB (show n≤1000 by omega) (show 2000≤K by omega) n 0 K 0 (by omega) (by omega) hn0
  have l2:=aLX (a1:=mp q n) (bB _ _) hT hB (show n≤1000 by omega) (show 2000≤K by omega) (n-1) 1 K 0 (by omega) (by omega) hn0
  have e0:zA (uL M q n) n (n-1) 1 0=zA (uL M q n) n n 0 0:=by
   obtain⟨m,rfl⟩:∃m,n=m+1:=⟨n-1,by omega⟩
   have e:les (uL M q (m+1)) (m+1) 0 1 0 1=false:=aJh _ _
   have e2:zA (uL M q (m+1)) (m+1) (m+1) 0 0=bif les (uL M q (m+1)) (m+1) 0 1 0 1 then zA (uL M q (m+1)) (m+1) m 1 0 else zA (uL M q (m+1)) (m+1) m 1 0:=rfl
   rw [e2,e,bR];rfl
  rw [e0] at l2
  simp only [Int.natCast_zero,Int.natCast_one] at l1 l2
  have r1:=aRd (v6:=((n:Int),mp (fun j=>j) n,mp (fun j=>((j:Nat):Int)) n,mx (uL M q n) n (2*n+2))) rfl hZ hB (show n≤1000 by omega) hm hK (most+1) 0 K _ _ _ _ _ _ (by omega) (by omega) (by omega) aGH (aGx (M:=M) (q:=q) hr)
  have r2:=aQP (a1:=mp q n) (bB _ _) hZ hB (show n≤1000 by omega) hm hK (most+1) 0 K _ _ _ _ (by omega) (by omega) (by omega) (aGx (M:=M) (q:=q) hr)
  simp only [Int.natCast_zero] at r1 r2
  constructor
  ·simp only [gF,aAs hM hq (show B≤1073741824 by omega) hn (show 100≤K by omega),oB,Bool.not_true,bR,dF (show¬(most:Int)<0 by omega),st,hng.1,hneg,aL5,l1,oT,c1,r1,z4,bX]
  ·simp only [jE,yV hM hq (show B≤1073741824 by omega) hn (show 100≤K by omega),oB,Bool.not_true,bR,dF (show¬(most:Int)<0 by omega),hng.2,hneg,aL5,s2,n8,l2,nY,bB,c1,r2,z4,bX]
 ·have hneg':ng q n 0=false:=by cases h:ng q n 0 with|true=>exact absurd h hneg|false=>rfl
  obtain⟨e1,e2⟩:=aLh (M:=M) (q:=q) (n:=n) n (Nat.le_refl _)
  have ps:=aI6 (b:=fun j=>j) (aGH (T:=uL M q n) (n:=n) (w:=2*n+2)) (show n≤1000 by omega) (show 2000≤K by omega)
  rw [e1,e2,iV (f:=fun j=>if j<n then q j else 0) (g:=q) fun i hi=>if_pos hi] at ps
  constructor
  ·simp only [gF,aAs hM hq (show B≤1073741824 by omega) hn (show 100≤K by omega),oB,Bool.not_true,bR,dF (show¬(most:Int)<0 by omega),st,hng.1,hneg',Bool.not_false,bX,ps,z4]
  ·simp only [jE,yV hM hq (show B≤1073741824 by omega) hn (show 100≤K by omega),oB,Bool.not_true,bR,dF (show¬(most:Int)<0 by omega),hng.2,hneg',Bool.not_false,bX,bB,aHH (z:=(0:Rat)) (n:=n) (by omega),z4]
   rfl
end Go.Proofs.YtolfcbpgmfbgmaaGreat
set_option linter.unusedVariables false
namespace Go.Proofs.YtolfcbpgmfbgmaaGreat
/-- What kills the tableau kills the first one. -/
def KE (n w:Nat) (Z T:Nat→Nat→Rat):Prop:=∀x:Nat→Rat,(∀i,i<n→sm (fun k=>T i k*x k) w=0)→∀i,i<n→sm (fun k=>Z i k*x k) w=0
theorem KE.pivot {n w r c:Nat} {Z T:Nat→Nat→Rat} (h:KE n w Z T) (hr:r<n) (hp:T r c≠0):KE n w Z (sO T r c):=fun x hx=>h x fun i hi=>by
 have e0:sm (fun k=>T r k*x k) w=0:=by
  have h1:=hx r hr
  have e:sm (fun k=>sO T r c r k*x k) w=(1/T r c)*sm (fun k=>T r k*x k) w:=by
   rw [←xQ];exact eD fun k _=>by unfold sO;rw [if_pos rfl];grind
  rw [e] at h1
  grind
 by_cases e:i=r
 ·rw [e];exact e0
 ·have h1:=hx i hi
  have e1:sm (fun k=>sO T r c i k*x k) w=sm (fun k=>T i k*x k) w-(T i c/T r c)*sm (fun k=>T r k*x k) w:=by
   rw [←aDD];exact eD fun k _=>by unfold sO;rw [if_neg e];grind
  rw [e1,e0] at h1
  grind
def bx (T:Nat→Nat→Rat) (b:Nat→Nat) (n k:Nat):Rat:=if k=2*n+1 then -1 else sm (fun i=>if b i=k then T i (2*n+1) else 0) n
theorem aQa {n w:Nat} {Z T:Nat→Nat→Rat} {b:Nat→Nat} (h:TI n w Z T b) (hb:∀j,j<n→b j≤2*n) {j:Nat} (hj:j<n):bx T b n (b j)=T j (2*n+1):=by
 have:=hb j hj
 unfold bx
 rw [if_neg (by omega),zR hj fun i hi hne=>if_neg fun e=>hne (h.inj hi hj e),if_pos rfl]
theorem aJH {n:Nat} {T:Nat→Nat→Rat} {b:Nat→Nat} {k:Nat} (hk:k≠2*n+1) (h:∀i,i<n→b i≠k):bx T b n k=0:=by
 unfold bx
 rw [if_neg hk]
 exact aAO fun i hi=>if_neg (h i hi)
theorem aNr {n:Nat} {Z T:Nat→Nat→Rat} {b:Nat→Nat} (h:TI n (2*n+2) Z T b) (hb:∀j,j<n→b j≤2*n) {i:Nat} (hi:i<n):sm (fun k=>T i k*bx T b n k) (2*n+2)=0:=by
 show sm _ (2*n+1)+T i (2*n+1)*bx T b n (2*n+1)=0
 have e1:bx T b n (2*n+1)=-1:=if_pos rfl
 have e2:sm (fun k=>T i k*bx T b n k) (2*n+1)=sm (fun k=>sm (fun j=>if b j=k then T i k*T j (2*n+1) else 0) n) (2*n+1):=eD fun k hk=>by
  unfold bx
  rw [if_neg (by omega),←xQ]
  refine eD fun j _=>?_
  by_cases e:b j=k
  ·rw [if_pos e,if_pos e]
  ·rw [if_neg e,if_neg e,Rat.mul_zero]
 have e3:sm (fun j=>sm (fun k=>if b j=k then T i k*T j (2*n+1) else 0) (2*n+1)) n=T i (2*n+1):=by
  have:sm (fun j=>sm (fun k=>if b j=k then T i k*T j (2*n+1) else 0) (2*n+1)) n=sm (fun j=>T i (b j)*T j (2*n+1)) n:=eD fun j hj=>by
   have:=hb j hj
   rw [zR (p:=b j) (by omega) fun k _ hne=>if_neg fun e=>hne e.symm,if_pos rfl]
  rw [this,zR hi fun j hj hne=>by rw [h.un i j hi hj,if_neg fun e=>hne e.symm,Rat.zero_mul],h.un i i hi hi,if_pos rfl,Rat.one_mul]
 rw [e2,aDW,e3,e1]
 grind
theorem aEF (f:Nat→Rat) (a:Nat):∀b,sm f (a+b)=sm f a+sm (fun j=>f (a+j)) b
 |0=>by show sm f a=sm f a+0;rw [Rat.add_zero]
 |b+1=>by
  show sm f (a+b)+f (a+b)=sm f a+(sm (fun j=>f (a+j)) b+f (a+b))
  rw [aEF f a b,Rat.add_assoc]
theorem aPN {M:Nat→Nat→Rat} {q x:Nat→Rat} {n i:Nat} (hi:i<n) (h:sm (fun k=>uL M q n i k*x k) (2*n+2)=0) (h1:x (2*n+1)=-1):x i=sm (fun j=>M i j*x (n+j)) n+x (2*n)+q i:=by
 have e:2*n+2=(n+n)+2:=by omega
 rw [e,aEF,aEF] at h
 have e1:sm (fun k=>uL M q n i k*x k) n=x i:=by
  have:uL M q n i i=1:=by unfold uL;rw [if_pos hi,if_pos rfl]
  rw [zR hi fun k hk hne=>by unfold uL;rw [if_pos hk,if_neg fun e=>hne e.symm,Rat.zero_mul],this,Rat.one_mul]
 have e2:sm (fun j=>uL M q n i (n+j)*x (n+j)) n=-(sm (fun j=>M i j*x (n+j)) n):=by
  rw [←aEu]
  refine eD fun j hj=>?_
  unfold uL
  rw [if_neg (by omega),if_pos (by omega),show n+j-n=j by omega,Rat.neg_mul]
 have e3:sm (fun j=>uL M q n i (n+n+j)*x (n+n+j)) 2=-(x (2*n))-q i:=by
  show 0+uL M q n i (n+n+0)*x (n+n+0)+uL M q n i (n+n+1)*x (n+n+1)=_
  rw [show n+n+0=2*n by omega,show n+n+1=2*n+1 by omega,h1]
  unfold uL
  rw [if_neg (by omega),if_neg (by omega),if_pos rfl,if_neg (by omega),if_neg (by omega),if_neg (by omega)]
  grind
 rw [e1,e2,e3] at h
 grind
def nn (f:Nat→Rat):Nat→Nat→Prop
 |0,_=>True
 |t+1,j=>0<f j∨(f j=0∧nn f t (j+1))
theorem nn.congr {f g:Nat→Rat}:∀{t j:Nat},(∀k,f k=g k)→nn f t j→nn g t j
 |0,_,_,_=>trivial
 |t+1,j,e,h=>by
  unfold nn at h ⊢
  rw [←e j]
  exact h.imp id fun h=>⟨h.1,nn.congr e h.2⟩
theorem nn.add {f g:Nat→Rat}:∀{t j:Nat},nn f t j→nn g t j→nn (fun k=>f k+g k) t j
 |0,_,_,_=>trivial
 |t+1,j,h1,h2=>by
  unfold nn at h1 h2 ⊢
  rcases h1 with h1|⟨h1,k1⟩<;>rcases h2 with h2|⟨h2,k2⟩
  ·left;grind
  ·left;grind
  ·left;grind
  ·right;exact⟨by grind,nn.add k1 k2⟩
theorem nn.mul {f:Nat→Rat} {a:Rat} (ha:0≤a):∀{t j:Nat},nn f t j→nn (fun k=>a*f k) t j
 |0,_,_=>trivial
 |t+1,j,h=>by
  unfold nn at h ⊢
  by_cases e:a=0
  ·right
   refine⟨by rw [e,Rat.zero_mul],?_⟩
   have:∀t j,nn (fun k=>a*f k) t j:=fun t=>by
    induction t with
    |zero=>intro j;trivial
    |succ t ih=>intro j;exact Or.inr ⟨by show a*f j=0;rw [e,Rat.zero_mul],ih (j+1)⟩
   exact this t (j+1)
  ·rcases h with h|⟨h,k⟩
   ·left
    exact Rat.mul_pos (by grind) h
   ·right
    exact⟨by rw [h,Rat.mul_zero],nn.mul ha k⟩
theorem nn.head {f:Nat→Rat} {t j:Nat} (h:nn f (t+1) j):0≤f j:=by
 unfold nn at h
 rcases h with h|h
 ·exact Rat.le_of_lt h
 ·rw [h.1];exact Rat.le_refl
theorem aH8 {T:Nat→Nat→Rat} {n i k:Nat} {c d:Rat}:∀t j,(lx T n i c k d t j=false→nn (fun j=>T i (nI n j)/c-T k (nI n j)/d) t j)∧(lx T n i c k d t j=true→nn (fun j=>T k (nI n j)/d-T i (nI n j)/c) t j)
 |0,j=>⟨fun _=>trivial,fun h=>absurd h (by unfold lx;decide)⟩
 |t+1,j=>by
  obtain⟨i1,i2⟩:=aH8 (T:=T) (n:=n) (i:=i) (k:=k) (c:=c) (d:=d) t (j+1)
  unfold lx nn
  by_cases e:T i (nI n j)/c=T k (nI n j)/d
  ·rw [decide_eq_true e,bX]
   exact⟨fun h=>Or.inr ⟨by rw [e];grind,i1 h⟩,fun h=>Or.inr ⟨by rw [e];grind,i2 h⟩⟩
  ·rw [decide_eq_false e,bR]
   refine⟨fun h=>Or.inl ?_,fun h=>Or.inl ?_⟩
   ·have:=of_decide_eq_false h
    grind
   ·have:=of_decide_eq_true h
    grind
def aDs (T:Nat→Nat→Rat) (n c k r:Nat):Prop:=nn (fun j=>T k (nI n j)/T k c-T r (nI n j)/T r c) (n+1) 0
theorem aCU {T:Nat→Nat→Rat} {n c:Nat}:∀t i s r,(∀q,s=some q→∀k,k<i→0<(T k c).num.sign→aDs T n c k q)→(s=none→∀k,k<i→¬0<(T k c).num.sign)→sel T n c t i s=some r→∀k,k<i+t→0<(T k c).num.sign→aDs T n c k r
 |0,i,s,r,h1,h2,e,k,hk,hp=>h1 r e k (by omega) hp
 |t+1,i,s,r,h1,h2,e,k,hk,hp=>by
  unfold sel at e
  have refl:aDs T n c i i:=by
   have:∀t j,nn (fun j=>T i (nI n j)/T i c-T i (nI n j)/T i c) t j:=fun t=>by
    induction t with
    |zero=>intro j;trivial
    |succ t ih=>intro j;exact Or.inr ⟨by grind,ih (j+1)⟩
   exact this _ _
  by_cases hi:0<(T i c).num.sign
  ·rw [decide_eq_true hi,bX] at e
   cases s with
   |none=>
    refine aCU t (i+1) (some i) r (fun q hq k hk hp=>?_) (fun h=>by cases h) e k (by omega) hp
    cases hq
    by_cases e2:k=i
    ·rw [e2];exact refl
    ·exact absurd hp (h2 rfl k (by omega))
   |some p=>
    simp only at e
    cases hl:les T n i (T i c) p (T p c)
    ·rw [hl,bR] at e
     refine aCU t (i+1) (some p) r (fun q hq k hk hp=>?_) (fun h=>by cases h) e k (by omega) hp
     cases hq
     by_cases e2:k=i
     ·rw [e2];exact(aH8 _ _).1 hl
     ·exact h1 p rfl k (by omega) hp
    ·rw [hl,bX] at e
     refine aCU t (i+1) (some i) r (fun q hq k hk hp=>?_) (fun h=>by cases h) e k (by omega) hp
     cases hq
     by_cases e2:k=i
     ·rw [e2];exact refl
     ·exact((h1 p rfl k (by omega) hp).add ((aH8 _ _).2 hl)).congr fun j=>by grind
  ·rw [decide_eq_false hi,bR] at e
   refine aCU t (i+1) s r (fun q hq k hk hp=>?_) (fun h k hk=>?_) e k (by omega) hp
   ·by_cases e2:k=i
    ·rw [e2] at hp;exact absurd hp hi
    ·exact h1 q hq k (by omega) hp
   ·by_cases e2:k=i
    ·rw [e2];exact hi
    ·exact h2 h k (by omega)
theorem aMb {a:Rat}:0<a.num↔0<a:=by
 have h1:=Rat.num_nonneg (q:=a)
 have h2:=Rat.num_eq_zero (q:=a)
 constructor
 ·intro h
  have h3:0≤a:=h1.1 (by omega)
  have h4:a≠0:=fun e=>by have:=h2.2 e;omega
  grind
 ·intro h
  have h3:0≤a.num:=h1.2 (by grind)
  have h4:a.num≠0:=fun e=>by have:=h2.1 e;grind
  omega
theorem aPA {x:Rat}:0<x.num.sign↔0<x:=by rw [Int.sign_pos_iff];exact aMb
def aGf (n:Nat) (T:Nat→Nat→Rat):Prop:=∀i,i<n→nn (fun j=>T i (nI n j)) (n+1) 0
theorem aGf.last {n i:Nat} {T:Nat→Nat→Rat} (h:aGf n T) (hi:i<n):0≤T i (2*n+1):=(h i hi).head
theorem aGf.pivot {n r c:Nat} {T:Nat→Nat→Rat} (h:aGf n T) (hr:r<n) (hp:0<T r c) (hm:∀k,k<n→0<T k c→aDs T n c k r):aGf n (sO T r c):=fun i hi=>by
 have hinv:(0:Rat)≤1/T r c:=by rw [Rat.div_def,Rat.one_mul];exact Rat.le_of_lt (Rat.inv_pos.2 hp)
 by_cases e:i=r
 ·exact((h r hr).mul hinv).congr fun j=>by unfold sO;rw [if_pos e];grind
 ·by_cases h2:0<T i c
  ·exact((hm i hi h2).mul (Rat.le_of_lt h2)).congr fun j=>by unfold sO;rw [if_neg e];grind
  ·have h3:0≤(-(T i c))*(1/T r c):=Rat.mul_nonneg (by grind) hinv
   exact((h i hi).add ((h r hr).mul h3)).congr fun j=>by unfold sO;rw [if_neg e];grind
theorem aEj {T:Nat→Nat→Rat} {n:Nat}:∀t i r,(∀k,k<i→nn (fun j=>T k (nI n j)-T r (nI n j)) (n+1) 0)→∀k,k<i+t→nn (fun j=>T k (nI n j)-T (zA T n t i r) (nI n j)) (n+1) 0
 |0,i,r,h,k,hk=>h k (by omega)
 |t+1,i,r,h,k,hk=>by
  unfold zA
  cases hl:les T n i 1 r 1
  ·rw [bR]
   refine aEj t (i+1) r (fun k hk=>?_) k (by omega)
   by_cases e:k=i
   ·rw [e];exact((aH8 _ _).1 hl).congr fun j=>by grind
   ·exact h k (by omega)
  ·rw [bX]
   have h1:=(aH8 _ _).2 hl
   refine aEj t (i+1) i (fun k hk=>?_) k (by omega)
   by_cases e:k=i
   ·rw [e]
    have:∀t j,nn (fun j=>T i (nI n j)-T i (nI n j)) t j:=fun t=>by
     induction t with
     |zero=>intro j;trivial
     |succ t ih=>intro j;exact Or.inr ⟨by grind,ih (j+1)⟩
    exact this _ _
   ·exact((h k (by omega)).add h1).congr fun j=>by grind
def cpl (n x:Nat):Nat:=if x<n then x+n else x-n
theorem aIo {n x:Nat} (h:x<2*n):cpl n x<2*n:=by unfold cpl;split<;>omega
theorem aC8 {n x:Nat} (h:x<2*n):cpl n (cpl n x)=x:=by
 unfold cpl
 by_cases e:x<n
 ·rw [if_pos e,if_neg (by omega)];omega
 ·rw [if_neg e,if_pos (by omega)];omega
theorem aMp {n x:Nat} (hn:0<n):cpl n x≠x∨2*n≤x:=by unfold cpl;split<;>omega
structure CB (n:Nat) (b:Nat→Nat) (c:Nat):Prop where
 inj:∀i j,i<n→j<n→b i=b j→i=j
 nc:∀i,i<n→b i≠c
 np:c<2*n→∀i,i<n→b i≠cpl n c
 pr:∀i j,i<n→j<n→b i<2*n→b j≠cpl n (b i)
theorem CB.pr' {n r c:Nat} {b:Nat→Nat} (h:CB n b c) (hr:r<n) (hc:c≤2*n):∀i j,i<n→j<n→nP b r c i<2*n→nP b r c j≠cpl n (nP b r c i):=fun i j hi hj hlt=>by
 by_cases e1:i=r
 ·subst e1
  rw [bG] at hlt ⊢
  by_cases e2:j=i
  ·subst e2;rw [bG]
   intro e
   rcases aMp (n:=n) (x:=c) (by omega) with h1|h1
   ·exact h1 e.symm
   ·omega
  ·rw [cP e2];exact h.np hlt j hj
 ·rw [cP e1] at hlt ⊢
  by_cases e2:j=r
  ·subst e2;rw [bG]
   intro e
   have h1:=aIo hlt
   have h2:b i=cpl n c:=by rw [e,aC8 hlt]
   exact h.np (by omega) i hi h2
  ·rw [cP e2];exact h.pr i j hi hj hlt
theorem CB.inj' {n r c:Nat} {b:Nat→Nat} (h:CB n b c):∀i j,i<n→j<n→nP b r c i=nP b r c j→i=j:=fun i j hi hj e=>by
 by_cases e1:i=r
 ·by_cases e2:j=r
  ·omega
  ·rw [e1,bG,cP e2] at e
   exact absurd e.symm (h.nc j hj)
 ·by_cases e2:j=r
  ·rw [e2,bG,cP e1] at e
   exact absurd e (h.nc i hi)
  ·rw [cP e1,cP e2] at e
   exact h.inj i j hi hj e
theorem CB.next {n r c:Nat} {b:Nat→Nat} (h:CB n b c) (hr:r<n) (hc:c≤2*n) (hl:b r<2*n):CB n (nP b r c) (cpl n (b r)):=by
 refine⟨h.inj',fun i hi=>?_,fun _ i hi=>?_,h.pr' hr hc⟩
 ·by_cases e:i=r
  ·rw [e,bG]
   intro e2
   have h1:=aIo hl
   exact h.np (by omega) r hr (by rw [e2,aC8 hl])
  ·rw [cP e];exact h.pr r i hr hi hl
 ·rw [aC8 hl]
  by_cases e:i=r
  ·rw [e,bG];exact fun e2=>h.nc r hr e2.symm
  ·rw [cP e];exact fun e2=>e (h.inj i r hi hr e2)
structure Sol (M:Nat→Nat→Rat) (q:Nat→Rat) (n:Nat) (z w:Nat→Rat):Prop where
 z0:∀j,j<n→0≤z j
 w0:∀j,j<n→0≤w j
 eq:∀i,i<n→w i=sm (fun j=>M i j*z j) n+q i
 zw:∀j,j<n→z j=0∨w j=0
theorem aNS {n:Nat} {T:Nat→Nat→Rat} {b:Nat→Nat} (hi:∀i j,i<n→j<n→b i=b j→i=j):∀m,m≤n→(∀j,j<n→swv T b n m j=sm (fun i=>if b i=j then T i (2*n+1) else 0) m)∧(∀j,j<n→szv T b n m j=sm (fun i=>if b i=n+j then T i (2*n+1) else 0) m)
 |0,_=>⟨fun _ _=>rfl,fun _ _=>rfl⟩
 |m+1,hm=>by
  obtain⟨h1,h2⟩:=aNS (T:=T) hi m (by omega)
  have zero:sm (fun i=>if b i=b m then T i (2*n+1) else 0) m=0:=aAO fun i h=>if_neg fun e=>by have:=hi i m (by omega) (by omega) e;omega
  refine⟨fun j hj=>?_,fun j hj=>?_⟩
  ·show swv T b n (m+1) j=sm _ m+(if b m=j then T m (2*n+1) else 0)
   rw [←h1 j hj]
   have w1:swv T b n (m+1)=if b m<n then nP (swv T b n m) (b m) (T m (2*n+1)) else swv T b n m:=rfl
   rw [w1]
   by_cases e:b m<n
   ·rw [if_pos e]
    by_cases e2:b m=j
    ·rw [if_pos e2,←e2,bG,h1 (b m) e,zero];grind
    ·rw [if_neg e2,cP (fun h=>e2 h.symm),Rat.add_zero]
   ·rw [if_neg e,if_neg (by omega),Rat.add_zero]
  ·show szv T b n (m+1) j=sm _ m+(if b m=n+j then T m (2*n+1) else 0)
   rw [←h2 j hj]
   have w1:szv T b n (m+1)=if b m<n then szv T b n m else if b m<2*n then nP (szv T b n m) (b m-n) (T m (2*n+1)) else szv T b n m:=rfl
   rw [w1]
   by_cases e:b m<n
   ·rw [if_pos e,if_neg (by omega),Rat.add_zero]
   ·rw [if_neg e]
    by_cases e1:b m<2*n
    ·rw [if_pos e1]
     by_cases e2:b m=n+j
     ·rw [if_pos e2,show b m-n=j by omega,bG,h2 j hj,←e2,zero];grind
     ·rw [if_neg e2,cP (by omega),Rat.add_zero]
    ·rw [if_neg e1,if_neg (by omega),Rat.add_zero]
theorem aNe {M T:Nat→Nat→Rat} {q:Nat→Rat} {n:Nat} {b:Nat→Nat} (ti:TI n (2*n+2) (uL M q n) T b) (ke:KE n (2*n+2) (uL M q n) T) (lx:aGf n T) (hb:∀i,i<n→b i<2*n) (pr:∀i j,i<n→j<n→b i<2*n→b j≠cpl n (b i)):Sol M q n (szv T b n n) (swv T b n n):=by
 have inj:∀i j,i<n→j<n→b i=b j→i=j:=fun i j hi hj e=>ti.inj hi hj e
 obtain⟨h1,h2⟩:=aNS (T:=T) inj n (Nat.le_refl n)
 have ew:∀j,j<n→swv T b n n j=bx T b n j:=fun j hj=>by rw [h1 j hj];unfold bx;rw [if_neg (by omega)]
 have ez:∀j,j<n→szv T b n n j=bx T b n (n+j):=fun j hj=>by rw [h2 j hj];unfold bx;rw [if_neg (by omega)]
 have hb':∀i,i<n→b i≤2*n:=fun i hi=>by have:=hb i hi;omega
 have nnb:∀k,k<2*n→0≤bx T b n k:=fun k hk=>by
  by_cases e:∃i,i<n∧b i=k
  ·obtain⟨i,hi,e⟩:=e
   rw [←e,aQa ti hb' hi];exact lx.last hi
  ·rw [aJH (by omega) fun i hi e2=>e ⟨i,hi,e2⟩];exact Rat.le_refl
 refine⟨fun j hj=>by rw [ez j hj];exact nnb _ (by omega),fun j hj=>by rw [ew j hj];exact nnb _ (by omega),fun i hi=>?_,fun j hj=>?_⟩
 ·have:=aPN hi (ke (bx T b n) (fun i hi=>aNr ti hb' hi) i hi) (if_pos rfl)
  rw [aJH (k:=2*n) (by omega) (fun i hi=>by have:=hb i hi;omega),Rat.add_zero] at this
  rw [ew i hi,this]
  congr 1
  exact eD fun j hj=>by rw [ez j hj]
 ·rw [ez j hj,ew j hj]
  by_cases e:∃i,i<n∧b i=n+j
  ·obtain⟨i,hi,e⟩:=e
   right
   refine aJH (by omega) fun i' hi' e2=>?_
   refine pr i i' hi hi' (by omega) ?_
   rw [e2,e];unfold cpl;rw [if_neg (by omega)];omega
  ·left;exact aJH (by omega) fun i hi e2=>e ⟨i,hi,e2⟩
theorem aJS {M:Nat→Nat→Rat} {q:Nat→Rat} {n most:Nat}:∀f T b r c cnt,LI n (uL M q n) T b r c→KE n (2*n+2) (uL M q n) T→aGf n (sO T r c)→CB n b c→(lem n most f T b r c cnt).2=0→∃z w,(lem n most f T b r c cnt).1.z=mp z n∧(lem n most f T b r c cnt).1.w=mp w n∧Sol M q n z w
 |0,T,b,r,c,cnt,li,ke,lx,cb,h0=>absurd h0 (by unfold lem;decide)
 |f+1,T,b,r,c,cnt,li,ke,lx,cb,h0=>by
  have hc:=li.hc
  have hr:=li.hr
  have ti':=li.ti.pivot hr (show c<2*n+2 by omega) li.hp
  have ke':=ke.pivot hr li.hp
  unfold lem at h0 ⊢
  by_cases e:cnt=most
  ·rw [if_pos e] at h0;exact absurd h0 (by decide)
  ·rw [if_neg e] at h0 ⊢
   by_cases e2:b r=2*n
   ·rw [if_pos e2]
    refine⟨_,_,rfl,rfl,aNe ti' ke' lx (fun i hi=>?_) (cb.pr' hr hc)⟩
    by_cases e3:i=r
    ·rw [e3,bG]
     have:=cb.nc r hr
     omega
    ·rw [cP e3]
     have h5:=li.hb i hi
     have h6:b i≠2*n:=fun h=>e3 (cb.inj i r hi hr (by rw [h,e2]))
     omega
   ·rw [if_neg e2] at h0 ⊢
    have hlt:b r<2*n:=by have:=li.hb r hr;omega
    cases hs:sel (sO T r c) n (if b r<n then b r+n else b r-n) n 0 none with
    |none=>rw [hs] at h0;exact absurd h0 (show¬(15:Int)=0 by decide)
    |some r'=>
     rw [hs] at h0
     obtain⟨s1,s2⟩:=aAc n 0 none r' (fun q hq=>by cases hq) hs
     have hm:=aCU n 0 none r' (fun q hq=>by cases hq) (fun _ k hk=>by omega) hs
     exact aJS f (sO T r c) (nP b r c) r' _ (cnt+1) (li.next e2 hs) ke' (lx.pivot (by omega) (aPA.1 s2) fun k hk hp=>hm k (by omega) (aPA.2 hp)) (cb.next hr hc hlt) h0
theorem aIv {M:Nat→Nat→Rat} {q:Nat→Rat} {n i:Nat}:uL M q n i (2*n)=-1:=by
 unfold uL;rw [if_neg (by omega),if_neg (by omega),if_pos rfl]
theorem aHo {M:Nat→Nat→Rat} {q:Nat→Rat} {n i:Nat}:uL M q n i (2*n+1)=q i:=by
 unfold uL;rw [if_neg (by omega),if_neg (by omega),if_neg (by omega)]
theorem aOa {q:Nat→Rat}:∀t i,ng q t i=true→∃k,i≤k∧k<i+t∧q k<0
 |0,i,h=>absurd h (by unfold ng;decide)
 |t+1,i,h=>by
  unfold ng at h
  by_cases e:(q i).num.sign<0
  ·refine⟨i,by omega,by omega,?_⟩
   rw [Int.sign_neg_iff,←Int.not_le,Rat.num_nonneg,Rat.not_le] at e;exact e
  ·rw [decide_eq_false e,bR] at h
   obtain⟨k,h1,h2,h3⟩:=aOa t (i+1) h
   exact⟨k,by omega,by omega,h3⟩
theorem aIK {q:Nat→Rat}:∀t i,ng q t i=false→∀k,i≤k→k<i+t→0≤q k
 |0,i,h,k,h1,h2=>by omega
 |t+1,i,h,k,h1,h2=>by
  unfold ng at h
  by_cases e:(q i).num.sign<0
  ·rw [decide_eq_true e,bX] at h;cases h
  ·rw [decide_eq_false e,bR] at h
   by_cases e2:k=i
   ·rw [Int.sign_neg_iff,←Int.not_le,Rat.num_nonneg] at e
    rw [e2];exact Decidable.not_not.1 e
   ·exact aIK t (i+1) h k (by omega) (by omega)
theorem aPm {M:Nat→Nat→Rat} {q:Nat→Rat} {n:Nat} (hneg:ng q n 0=true):aGf n (sO (uL M q n) (zA (uL M q n) n n 0 0) (2*n)):=fun i hi=>by
 have hm:=aEj (n:=n) (T:=uL M q n) n 0 0 (fun k hk=>by omega)
 generalize hr:zA (uL M q n) n n 0 0=r at *
 have hrn:r<n:=by rw [←hr];exact aBJ n 0 0 (aD5 hneg) (by omega)
 by_cases e:i=r
 ·unfold nn
  left
  obtain⟨k,_,k2,k3⟩:=aOa n 0 hneg
  have h1:=(hm k k2).head
  have e1:nI n 0=2*n+1:=rfl
  simp only [e1,aHo] at h1
  show 0<sO (uL M q n) r (2*n) i (nI n 0)
  unfold sO
  rw [if_pos e,e1,aHo,aIv]
  grind
 ·refine(hm i (by omega)).congr fun j=>?_
  unfold sO
  rw [if_neg e,aIv,aIv]
  grind
theorem aO4 {n:Nat}:CB n (fun j=>j) (2*n):=
 ⟨fun i j _ _ e=>e,fun i hi=>by show i≠2*n;omega,fun h=>absurd h (Nat.lt_irrefl _),fun i j hi hj _=>by show j≠cpl n i;unfold cpl;rw [if_pos hi];omega⟩
theorem aMo {M:Nat→Nat→Rat} {q:Nat→Rat} {n most:Nat} (h0:(z4 M q n most).2=0):∃z w,(z4 M q n most).1.z=mp z n∧(z4 M q n most).1.w=mp w n∧Sol M q n z w:=by
 unfold z4 at h0 ⊢
 cases hneg:ng q n 0
 ·rw [hneg,bR] at h0
  rw [bR]
  refine⟨_,_,rfl,rfl,fun _ _=>Rat.le_refl,fun j hj=>aIK n 0 hneg j (by omega) (by omega),fun i hi=>?_,fun _ _=>Or.inl rfl⟩
  rw [aAO fun j _=>show M i j*z0 j=0 from Rat.mul_zero _,Rat.zero_add]
 ·rw [hneg,bX] at h0
  rw [bX]
  exact aJS _ _ _ _ _ _ (aGx (aBJ n 0 0 (aD5 hneg) (by omega))) (fun x hx=>hx) (aPm hneg) aO4 h0
end Go.Proofs.YtolfcbpgmfbgmaaGreat
set_option linter.unusedVariables false
namespace Go.Proofs.YtolfcbpgmfbgmaaGreat
def psl (f:Nat→Rat):Nat→Nat→Prop
 |0,_=>False
 |t+1,j=>0<f j∨(f j=0∧psl f t (j+1))
theorem psl.congr {f g:Nat→Rat}:∀{t j:Nat},(∀k,f k=g k)→psl f t j→psl g t j
 |0,_,_,h=>h
 |t+1,j,e,h=>by
  unfold psl at h ⊢
  rw [←e j]
  exact h.imp id fun h=>⟨h.1,psl.congr e h.2⟩
theorem psl.add {f g:Nat→Rat}:∀{t j:Nat},psl f t j→nn g t j→psl (fun k=>f k+g k) t j
 |0,_,h,_=>h
 |t+1,j,h1,h2=>by
  unfold psl at h1 ⊢
  unfold nn at h2
  rcases h1 with h1|⟨h1,k1⟩<;>rcases h2 with h2|⟨h2,k2⟩
  ·left;grind
  ·left;grind
  ·left;grind
  ·right;exact⟨by grind,psl.add k1 k2⟩
theorem psl.mul {f:Nat→Rat} {a:Rat} (ha:0<a):∀{t j:Nat},psl f t j→psl (fun k=>a*f k) t j
 |0,_,h=>h
 |t+1,j,h=>by
  unfold psl at h ⊢
  rcases h with h|⟨h,k⟩
  ·left;exact Rat.mul_pos ha h
  ·right;exact⟨by rw [h,Rat.mul_zero],psl.mul ha k⟩
theorem psl.zero {f:Nat→Rat}:∀{t j:Nat},psl f t j→∃k,j≤k∧k<j+t∧f k≠0
 |0,_,h=>h.elim
 |t+1,j,h=>by
  unfold psl at h
  rcases h with h|⟨h,k⟩
  ·exact⟨j,by omega,by omega,by grind⟩
  ·obtain⟨k,h1,h2,h3⟩:=k.zero
   exact⟨k,by omega,by omega,h3⟩
theorem nn.strict {f:Nat→Rat}:∀{t j:Nat},nn f t j→(∃k,j≤k∧k<j+t∧f k≠0)→psl f t j
 |0,_,_,⟨k,h1,h2,_⟩=>by omega
 |t+1,j,h,⟨k,h1,h2,h3⟩=>by
  unfold nn at h
  unfold psl
  rcases h with h|⟨h,h'⟩
  ·exact Or.inl h
  ·refine Or.inr ⟨h,h'.strict ⟨k,?_,by omega,h3⟩⟩
   by_cases e:k=j
   ·subst e;exact absurd h h3
   ·omega
def mem (n:Nat) (b:Nat→Nat) (v:Nat):Prop:=∃i,i<n∧b i=v
structure SI (n:Nat) (Z T:Nat→Nat→Rat) (b:Nat→Nat) (c:Nat):Prop where
 ti:TI n (2*n+2) Z T b
 ke:KE n (2*n+2) Z T
 sp:∃F:Nat→Nat→Rat,∀i k,i<n→k<2*n+2→Z i k=sm (fun j=>F i j*T j k) n
 id:∀i j,i<n→j<n→Z i j=if i=j then 1 else 0
 lx:aGf n T
 cb:CB n b c
 hb:∀i,i<n→b i≤2*n
 hc:c<2*n
theorem SI.inj {n:Nat} {Z T:Nat→Nat→Rat} {b:Nat→Nat} {c:Nat} (h:SI n Z T b c):∀i j,i<n→j<n→b i=b j→i=j:=h.cb.inj
theorem SI.pos {n:Nat} {Z T:Nat→Nat→Rat} {b:Nat→Nat} {c:Nat} (h:SI n Z T b c) {i:Nat} (hi:i<n):psl (fun j=>T i (nI n j)) (n+1) 0:=by
 refine(h.lx i hi).strict ?_
 refine Classical.byContradiction fun hno=>?_
 have zero:∀k,k<n→T i k=0:=fun k hk=>by
  refine Classical.byContradiction fun h1=>hno ⟨k+1,by omega,by omega,?_⟩
  unfold nI;rw [if_neg (by omega),show k+1-1=k by omega];exact h1
 obtain⟨E,hE⟩:=h.ti.ex
 have hE0:∀k,k<n→E i k=0:=fun k hk=>by
  have h1:=hE i k hi (by omega)
  rw [zero k hk,xS,zR hk fun j hj hne=>by rw [h.id j k hj hk,if_neg hne,Rat.zero_mul],h.id k k hk hk,if_pos rfl,Rat.one_mul] at h1
  exact h1.symm
 have h2:=hE i (b i) hi (h.ti.lt i hi)
 rw [h.ti.un i i hi hi,if_pos rfl,xS,aAO fun j hj=>by rw [hE0 j hj,Rat.mul_zero]] at h2
 exact absurd h2 (by decide)
theorem SI.row {n:Nat} {Z T T':Nat→Nat→Rat} {b b':Nat→Nat} {c c':Nat} (h:SI n Z T b c) (h':SI n Z T' b' c') (hm:∀v,mem n b v↔mem n b' v) {i j:Nat} (hi:i<n) (hj:j<n) (e:b i=b' j) {k:Nat} (hk:k<2*n+2):T i k=T' j k:=by
 obtain⟨E,hE⟩:=h'.ti.ex
 obtain⟨F,hF⟩:=h.sp
 let g:Nat→Rat:=fun m=>sm (fun l=>E j l*F l m) n
 have hg:∀k,k<2*n+2→T' j k=sm (fun m=>g m*T m k) n:=fun k hk=>by
  rw [hE j k hj hk,xS]
  have e1:sm (fun l=>Z l k*E j l) n=sm (fun l=>sm (fun m=>E j l*F l m*T m k) n) n:=eD fun l hl=>by
   rw [hF l k hl hk,Rat.mul_comm,←xQ]
   exact eD fun m _=>by grind
  rw [e1,aDW]
  refine eD fun m _=>?_
  show _=sm (fun l=>E j l*F l m) n*T m k
  rw [Rat.mul_comm,←xQ]
  exact eD fun l _=>by grind
 have gd:∀m,m<n→g m=if m=i then 1 else 0:=fun m hmn=>by
  have h1:=hg (b m) (h.ti.lt m hmn)
  rw [zR hmn fun m' hm' hne=>by rw [h.ti.un m' m hm' hmn,if_neg hne,Rat.mul_zero],h.ti.un m m hmn hmn,if_pos rfl,Rat.mul_one] at h1
  obtain⟨j',hj',e'⟩:=(hm (b m)).1 ⟨m,hmn,rfl⟩
  rw [←h1,←e',h'.ti.un j j' hj hj']
  by_cases e2:m=i
  ·subst e2
   rw [if_pos rfl,if_pos (h'.inj j j' hj hj' (by rw [←e,e']))]
  ·rw [if_neg e2,if_neg fun e3=>e2 (h.inj m i hmn hi (by rw [e,e3,e']))]
 rw [hg k hk,zR hi fun m hmn hne=>by rw [gd m hmn,if_neg hne,Rat.zero_mul],gd i hi,if_pos rfl,Rat.one_mul]
def aAZ (n:Nat) (T:Nat→Nat→Rat) (x r:Nat):Prop:=0<T r x∧∀k,k<n→0<T k x→aDs T n x k r
theorem aK8 {n w r c:Nat} {Z T:Nat→Nat→Rat} (h:∃F:Nat→Nat→Rat,∀i k,i<n→k<w→Z i k=sm (fun j=>F i j*T j k) n) (hr:r<n) (hp:T r c≠0):∃F:Nat→Nat→Rat,∀i k,i<n→k<w→Z i k=sm (fun j=>F i j*sO T r c j k) n:=by
 obtain⟨F,hF⟩:=h
 refine⟨fun i j=>if j=r then sm (fun l=>F i l*T l c) n else F i j,fun i k hi hk=>?_⟩
 rw [hF i k hi hk]
 have e:∀j,F i j*T j k=(if j=r then F i j*T j k-F i j*T j c*(T r k/T r c) else F i j*T j k-F i j*T j c*(T r k/T r c))+(T r k/T r c)*(F i j*T j c):=fun j=>by split<;>grind
 have e1:sm (fun j=>F i j*T j k) n=sm (fun j=>F i j*T j k-(T r k/T r c)*(F i j*T j c)) n+(T r k/T r c)*sm (fun l=>F i l*T l c) n:=by
  rw [aDD];grind
 have e2:sm (fun j=>(if j=r then sm (fun l=>F i l*T l c) n else F i j)*sO T r c j k) n=sm (fun j=>(F i j*T j k-(T r k/T r c)*(F i j*T j c))+(if j=r then(T r k/T r c)*sm (fun l=>F i l*T l c) n else 0)) n:=eD fun j hj=>by
  unfold sO
  by_cases e3:j=r
  ·subst e3
   rw [if_pos rfl,if_pos rfl,if_pos rfl];grind
  ·rw [if_neg e3,if_neg e3,if_neg e3];grind
 rw [e1,e2,aGZ]
 congr 1
 rw [zR hr fun j hj hne=>if_neg hne,if_pos rfl]
theorem SI.next {n r c:Nat} {Z T:Nat→Nat→Rat} {b:Nat→Nat} (h:SI n Z T b c) (hr:r<n) (hl:aAZ n T c r) (hx:b r<2*n):SI n Z (sO T r c) (nP b r c) (cpl n (b r)):=by
 have hc:=h.hc
 have hp:T r c≠0:=by have:=hl.1;grind
 exact⟨h.ti.pivot hr (by omega) hp,h.ke.pivot hr hp,aK8 h.sp hr hp,h.id,h.lx.pivot hr hl.1 hl.2,h.cb.next hr (by omega) hx,fun i hi=>by
  by_cases e:i=r
  ·rw [e,bG];omega
  ·rw [cP e];exact h.hb i hi,aIo hx⟩
theorem aGL {n r c:Nat} {b:Nat→Nat} (hi:∀i j,i<n→j<n→b i=b j→i=j) (hr:r<n) (hc:∀i,i<n→b i≠c) (v:Nat):mem n (nP b r c) v↔(v=c∨(mem n b v∧v≠b r)):=by
 constructor
 ·rintro⟨i,h1,h2⟩
  by_cases e:i=r
  ·rw [e,bG] at h2;exact Or.inl h2.symm
  ·rw [cP e] at h2
   exact Or.inr ⟨⟨i,h1,h2⟩,fun h3=>e (hi i r h1 hr (by rw [h2,h3]))⟩
 ·rintro(h|⟨⟨i,h1,h2⟩,h3⟩)
  ·exact⟨r,hr,by rw [bG,h]⟩
  ·have e:i≠r:=fun e=>h3 (by rw [←h2,e])
   exact⟨i,h1,by rw [cP e,h2]⟩
theorem aQt {n r c:Nat} {Z T:Nat→Nat→Rat} {b:Nat→Nat} (h:SI n Z T b c) (hr:r<n) (hl:aAZ n T c r):0<sO T r c r (b r)∧∀r',r'<n→aAZ n (sO T r c) (b r) r'→r'=r:=by
 have hp:=hl.1
 have u:∀i,i<n→T i (b r)=if i=r then 1 else 0:=fun i hi=>h.ti.un i r hi hr
 have hrr:sO T r c r (b r)=1/T r c:=by unfold sO;rw [if_pos rfl,u r hr,if_pos rfl]
 have hpos:0<sO T r c r (b r):=by rw [hrr,Rat.div_def,Rat.one_mul];exact Rat.inv_pos.2 hp
 refine⟨hpos,fun r' hr' hl'=>Classical.byContradiction fun hne=>?_⟩
 have h1:sO T r c r' (b r)=-(T r' c)/T r c:=by
  unfold sO;rw [if_neg hne,u r' hr',if_neg hne,u r hr,if_pos rfl];grind
 have h2:=hl'.1
 have h3:T r' c<0:=by
  refine Rat.not_le.1 fun h4=>?_
  rw [h1] at h2
  have:0≤T r' c*(1/T r c):=Rat.mul_nonneg h4 (by rw [Rat.div_def,Rat.one_mul];exact Rat.le_of_lt (Rat.inv_pos.2 hp))
  grind
 have m:0<T r c/ -(T r' c):=by rw [Rat.div_def];exact Rat.mul_pos hp (Rat.inv_pos.2 (by grind))
 have s:=((h.pos hr').mul m).add (hl'.2 r hr hpos)
 obtain⟨k,_,_,hk⟩:=s.zero
 refine hk ?_
 rw [hrr,h1]
 unfold sO
 rw [if_pos rfl,if_neg hne]
 grind
end Go.Proofs.YtolfcbpgmfbgmaaGreat
set_option linter.unusedVariables false
namespace Go.Proofs.YtolfcbpgmfbgmaaGreat
theorem psl.nn {f:Nat→Rat}:∀{t j:Nat},psl f t j→nn f t j
 |0,_,h=>h.elim
 |t+1,j,h=>by
  unfold psl at h
  unfold Go.Proofs.YtolfcbpgmfbgmaaGreat.nn
  exact h.imp id fun h=>⟨h.1,h.2.nn⟩
theorem nn.congr_le {f g:Nat→Rat}:∀{t j:Nat},(∀k,k<j+t→f k=g k)→nn f t j→nn g t j
 |0,_,_,_=>trivial
 |t+1,j,e,h=>by
  unfold Go.Proofs.YtolfcbpgmfbgmaaGreat.nn at h ⊢
  rw [←e j (by omega)]
  exact h.imp id fun h=>⟨h.1,nn.congr_le (fun k hk=>e k (by omega)) h.2⟩
theorem aJq {f:Nat→Rat} (h:∀k,f k=0):∀t j,nn f t j
 |0,_=>trivial
 |t+1,j=>Or.inr ⟨h j,aJq h t (j+1)⟩
theorem aIm {n r c:Nat} {Z T:Nat→Nat→Rat} {b:Nat→Nat} (h:SI n Z T b c) (hr:r<n) (hl:aAZ n T c r):aAZ n (sO T r c) (b r) r:=by
 have hp:=hl.1
 have u:∀i,i<n→T i (b r)=if i=r then 1 else 0:=fun i hi=>h.ti.un i r hi hr
 have hrr:sO T r c r (b r)=1/T r c:=by unfold sO;rw [if_pos rfl,u r hr,if_pos rfl]
 refine⟨(aQt h hr hl).1,fun k hk hkp=>?_⟩
 unfold aDs
 by_cases e:k=r
 ·subst e;exact aJq (fun j=>by grind) _ _
 ·have h1:sO T r c k (b r)=-(T k c)/T r c:=by
   unfold sO;rw [if_neg e,u k hk,if_neg e,u r hr,if_pos rfl];grind
  have h3:T k c<0:=by
   refine Rat.not_le.1 fun h4=>?_
   rw [h1] at hkp
   have:0≤T k c*(1/T r c):=Rat.mul_nonneg h4 (by rw [Rat.div_def,Rat.one_mul];exact Rat.le_of_lt (Rat.inv_pos.2 hp))
   grind
  have m:0<T r c/ -(T k c):=by rw [Rat.div_def];exact Rat.mul_pos hp (Rat.inv_pos.2 (by grind))
  refine(((h.pos hk).mul m).nn).congr fun j=>?_
  rw [hrr,h1]
  unfold sO
  rw [if_pos rfl,if_neg e]
  grind
theorem aCg {n:Nat} {Z T T':Nat→Nat→Rat} {b b':Nat→Nat} {c c' x r m:Nat} (h:SI n Z T b c) (h':SI n Z T' b' c') (hm:∀v,mem n b v↔mem n b' v) (hr:r<n) (hmn:m<n) (e:b' m=b r) (hx:x<2*n+2) (hl:aAZ n T x r):aAZ n T' x m:=by
 have row:∀i j,i<n→j<n→b i=b' j→∀k,k<2*n+2→T i k=T' j k:=fun i j hi hj e k hk=>h.row h' hm hi hj e hk
 refine⟨by rw [←row r m hr hmn e.symm x hx];exact hl.1,fun k hk hp=>?_⟩
 obtain⟨i,hi,e2⟩:=(hm (b' k)).2 ⟨k,hk,rfl⟩
 have hp2:0<T i x:=by rw [row i k hi hk e2 x hx];exact hp
 refine(hl.2 i hi hp2).congr_le fun j hj=>?_
 have hc:nI n j<2*n+2:=by unfold nI;split<;>omega
 rw [row i k hi hk e2 _ hc,row r m hr hmn e.symm _ hc,row i k hi hk e2 x hx,row r m hr hmn e.symm x hx]
structure Run (n:Nat) (Z:Nat→Nat→Rat) (TT:Nat→Nat→Nat→Rat) (BB:Nat→Nat→Nat) (CC:Nat→Nat) (N:Nat):Prop where
 si:∀k,k≤N→SI n Z (TT k) (BB k) (CC k)
 st:∀k,k<N→∃r,r<n∧aAZ n (TT k) (CC k) r∧BB k r<2*n∧TT (k+1)=sO (TT k) r (CC k)∧BB (k+1)=nP (BB k) r (CC k)∧CC (k+1)=cpl n (BB k r)
 beg:∀i,i<n→TT 0 i (cpl n (CC 0))≤0
section
variable {n N:Nat} {Z:Nat→Nat→Rat} {TT:Nat→Nat→Nat→Rat} {BB:Nat→Nat→Nat} {CC:Nat→Nat}
theorem Run.prev (h:Run n Z TT BB CC N) {k:Nat} (hk:k<N):∃r,r<n∧aAZ n (TT k) (CC k) r∧aAZ n (TT (k+1)) (cpl n (CC (k+1))) r∧(∀r',r'<n→aAZ n (TT (k+1)) (cpl n (CC (k+1))) r'→r'=r)∧BB (k+1) r=CC k∧BB k r=cpl n (CC (k+1))∧cpl n (CC (k+1))<2*n∧
  (∀v,mem n (BB k) v↔(v=cpl n (CC (k+1))∨(mem n (BB (k+1)) v∧v≠CC k)))∧(∀v,mem n (BB (k+1)) v↔(v=CC k∨(mem n (BB k) v∧v≠cpl n (CC (k+1))))):=by
 obtain⟨r,r1,r2,r3,r4,r5,r6⟩:=h.st k hk
 have hs:=h.si k (by omega)
 have e:cpl n (CC (k+1))=BB k r:=by rw [r6,aC8 r3]
 have hm:=aGL (v:=0) hs.inj r1 hs.cb.nc
 refine⟨r,r1,r2,?_,?_,by rw [r5,bG],e.symm,by rw [e];exact r3,fun v=>?_,fun v=>?_⟩
 ·rw [e,r4];exact aIm hs r1 r2
 ·rw [e,r4];exact(aQt hs r1 r2).2
 ·rw [r5,aGL hs.inj r1 hs.cb.nc,e]
  constructor
  ·intro hv
   by_cases e2:v=BB k r
   ·exact Or.inl e2
   ·refine Or.inr ⟨Or.inr ⟨hv,e2⟩,fun e3=>?_⟩
    obtain⟨i,hi,hi2⟩:=hv
    exact hs.cb.nc i hi (by rw [hi2,e3])
  ·rintro(hv|⟨hv|hv,hv2⟩)
   ·exact⟨r,r1,hv.symm⟩
   ·exact absurd hv hv2
   ·exact hv.1
 ·rw [r5,aGL hs.inj r1 hs.cb.nc,e]
theorem Run.key (h:Run n Z TT BB CC N):∀i j,i<j→j≤N→CC i=CC j→(∀v,mem n (BB i) v↔mem n (BB j) v)→False
 |i,0,hij,_,_,_=>by omega
 |0,j+1,hij,hj,hc,hs=>by
  obtain⟨r,r1,_,r3,_,r5,_,r7,_⟩:=h.prev (show j<N by omega)
  obtain⟨m,m1,m2⟩:=(hs (BB (j+1) r)).2 ⟨r,r1,rfl⟩
  have l:=aCg (h.si (j+1) hj) (h.si 0 (by omega)) (fun v=>(hs v).symm) r1 m1 m2 (x:=cpl n (CC (j+1))) (by omega) r3
  rw [←hc] at l
  exact absurd l.1 (Rat.not_lt.2 (h.beg m m1))
 |i+1,j+1,hij,hj,hc,hs=>by
  obtain⟨r,r1,_,r3,_,r5,_,r7,r8,_⟩:=h.prev (show j<N by omega)
  obtain⟨q,q1,_,q3,q4,q5,_,_,q8,_⟩:=h.prev (show i<N by omega)
  obtain⟨m,m1,m2⟩:=(hs (BB (j+1) r)).2 ⟨r,r1,rfl⟩
  have l:=aCg (h.si (j+1) hj) (h.si (i+1) (by omega)) (fun v=>(hs v).symm) r1 m1 m2 (x:=cpl n (CC (j+1))) (by omega) r3
  rw [←hc] at l
  have e:=q4 m m1 l
  rw [e,q5,r5] at m2
  refine h.key i j (by omega) (by omega) m2 fun v=>?_
  rw [r8,q8,hs v,hc,m2]
theorem Run.turn (h:Run n Z TT BB CC N):∀g i j,j=i+g→i<j→j≤N→CC j=cpl n (CC i)→(∀v,mem n (BB i) v↔mem n (BB j) v)→False
 |0,i,j,hg,hij,_,_,_=>by omega
 |1,i,j,hg,hij,hj,hc,hs=>by
  subst hg
  obtain⟨r,r1,r2,r3,r4,r5,r6,r7,r8,r9⟩:=h.prev (show i<N by omega)
  have h1:=(hs (CC i)).2 ((r9 (CC i)).2 (Or.inl rfl))
  obtain⟨m,m1,m2⟩:=h1
  exact(h.si i (by omega)).cb.nc m m1 m2
 |g+2,i,j,hg,hij,hj,hc,hs=>by
  obtain⟨j',rfl⟩:∃j',j=j'+1:=⟨j-1,by omega⟩
  obtain⟨r,r1,r2,r3,r4,r5,r6,r7,r8,r9⟩:=h.prev (show j'<N by omega)
  obtain⟨q,q1,q2,q3,q4,q5,q6,q7,q8,q9⟩:=h.prev (show i<N by omega)
  have hci:=(h.si i (by omega)).hc
  have ex:cpl n (CC (j'+1))=CC i:=by rw [hc,aC8 hci]
  rw [ex] at r3 r4 r6 r7 r8 r9
  obtain⟨m,m1,m2⟩:=(hs (BB i q)).1 ⟨q,q1,rfl⟩
  have l:=aCg (h.si i (by omega)) (h.si (j'+1) hj) hs q1 m1 m2 (x:=CC i) (by omega) q2
  have e:=r4 m m1 l
  rw [e,r5,q6] at m2
  have hci1:=(h.si (i+1) (by omega)).hc
  have s2:∀v,mem n (BB (i+1)) v↔mem n (BB j') v:=fun v=>by rw [q9,r8,hs v,m2]
  by_cases e2:i+1=j'
  ·subst e2
   rcases aMp (n:=n) (x:=CC (i+1)) (by omega) with h1|h1
   ·exact h1 m2.symm
   ·omega
  ·exact h.turn g (i+1) j' (by omega) (by omega) (by omega) m2 s2
end
theorem pig:∀(n m:Nat) (f:Nat→Nat),(∀i,i<n→f i<m)→(∀i j,i<n→j<n→f i=f j→i=j)→n≤m
 |0,m,f,_,_=>Nat.zero_le _
 |n+1,m,f,h1,h2=>by
  have h3:=h1 n (by omega)
  have:=pig n (m-1) (fun i=>if f i<f n then f i else f i-1) (fun i hi=>by
   have a:=h1 i (by omega)
   have b:f i≠f n:=fun e=>by have:=h2 i n (by omega) (by omega) e;omega
   show(if f i<f n then f i else f i-1)<m-1
   split<;>omega) (fun i j hi hj e=>by
   have b:f i≠f n:=fun e=>by have:=h2 i n (by omega) (by omega) e;omega
   have c:f j≠f n:=fun e=>by have:=h2 j n (by omega) (by omega) e;omega
   refine h2 i j (by omega) (by omega) ?_
   have e':(if f i<f n then f i else f i-1)=(if f j<f n then f j else f j-1):=e
   split at e'<;>split at e'<;>omega)
  omega
def zT (n v:Nat):Nat:=if v<n then v else v-n
theorem aCw {n u v:Nat} (hu:u<2*n) (hv:v<2*n) (h:zT n u=zT n v):u=v∨u=cpl n v:=by
 unfold zT at h;unfold cpl
 split at h<;>split at h<;>split<;>omega
theorem aDA {n v:Nat} (h:v<2*n):zT n v<n:=by unfold zT;split<;>omega
theorem aLz {n:Nat} {Z T T':Nat→Nat→Rat} {b b':Nat→Nat} {c c':Nat} (h:SI n Z T b c) (h':SI n Z T' b' c') (hm:∀v,mem n b v↔mem n b' v):c'=c∨c'=cpl n c:=by
 refine Classical.byContradiction fun hno=>?_
 have hc:=h.hc
 have hc':=h'.hc
 have hd:zT n c≠zT n c':=fun e=>hno (aCw hc' hc e.symm)
 have no':∀i,i<n→b i≠c'∧b i≠cpl n c':=fun i hi=>by
  obtain⟨j,hj,e⟩:=(hm (b i)).1 ⟨i,hi,rfl⟩
  exact⟨fun e2=>h'.cb.nc j hj (by rw [e,e2]),fun e2=>h'.cb.np hc' j hj (by rw [e,e2])⟩
 let f:Nat→Nat:=fun i=>if b i=2*n then zT n c else zT n (b i)
 have lt:∀i,i<n→b i≠2*n→b i<2*n:=fun i hi hne=>by have:=h.hb i hi;omega
 have f1:∀i,i<n→f i<n:=fun i hi=>by
  show(if b i=2*n then zT n c else zT n (b i))<n
  by_cases e:b i=2*n
  ·rw [if_pos e];exact aDA hc
  ·rw [if_neg e];exact aDA (lt i hi e)
 have f2:∀i,i<n→f i≠zT n c':=fun i hi=>by
  show(if b i=2*n then zT n c else zT n (b i))≠zT n c'
  by_cases e:b i=2*n
  ·rw [if_pos e];exact hd
  ·rw [if_neg e]
   intro e2
   rcases aCw (lt i hi e) hc' e2 with h1|h1
   ·exact(no' i hi).1 h1
   ·exact(no' i hi).2 h1
 have f3:∀i j,i<n→j<n→f i=f j→i=j:=fun i j hi hj e=>by
  have e':(if b i=2*n then zT n c else zT n (b i))=(if b j=2*n then zT n c else zT n (b j)):=e
  by_cases e1:b i=2*n
  ·by_cases e2:b j=2*n
   ·exact h.inj i j hi hj (by rw [e1,e2])
   ·rw [if_pos e1,if_neg e2] at e'
    rcases aCw (lt j hj e2) hc e'.symm with h1|h1
    ·exact absurd h1 (h.cb.nc j hj)
    ·exact absurd h1 (h.cb.np hc j hj)
  ·by_cases e2:b j=2*n
   ·rw [if_neg e1,if_pos e2] at e'
    rcases aCw (lt i hi e1) hc e' with h1|h1
    ·exact absurd h1 (h.cb.nc i hi)
    ·exact absurd h1 (h.cb.np hc i hi)
   ·rw [if_neg e1,if_neg e2] at e'
    rcases aCw (lt i hi e1) (lt j hj e2) e' with h1|h1
    ·exact h.inj i j hi hj h1
    ·exact absurd h1 (h.cb.pr j i hj hi (lt j hj e2))
 have hq:=aDA hc'
 have:=pig n (n-1) (fun i=>if f i<zT n c' then f i else f i-1) (fun i hi=>by
  have a:=f1 i hi
  have b:=f2 i hi
  show(if f i<zT n c' then f i else f i-1)<n-1
  split<;>omega) (fun i j hi hj e=>by
  have a:=f2 i hi
  have b:=f2 j hj
  refine f3 i j hi hj ?_
  have e':(if f i<zT n c' then f i else f i-1)=(if f j<zT n c' then f j else f j-1):=e
  split at e'<;>split at e'<;>omega)
 omega
theorem Run.distinct {n N:Nat} {Z:Nat→Nat→Rat} {TT:Nat→Nat→Nat→Rat} {BB:Nat→Nat→Nat} {CC:Nat→Nat} (h:Run n Z TT BB CC N) {i j:Nat} (hij:i<j) (hj:j≤N) (hs:∀v,mem n (BB i) v↔mem n (BB j) v):False:=by
 rcases aLz (h.si i (by omega)) (h.si j hj) hs with e|e
 ·exact h.key i j hij hj e.symm hs
 ·exact h.turn (j-i) i j (by omega) hij hj e hs
open Classical in
noncomputable def dg (n:Nat) (b:Nat→Nat) (j:Nat):Nat:=if mem n b j then 1 else if mem n b (n+j) then 2 else 0
noncomputable def cde (n:Nat) (b:Nat→Nat):Nat→Nat
 |0=>0
 |j+1=>3*cde n b j+dg n b j
theorem aJw {n:Nat} {b:Nat→Nat} {j:Nat}:dg n b j≤2:=by unfold dg;split;omega;split<;>omega
theorem aKX {n:Nat} {b:Nat→Nat}:∀m,cde n b m<3^m
 |0=>Nat.one_pos
 |m+1=>by
  have:=aKX (n:=n) (b:=b) m
  have:=aJw (n:=n) (b:=b) (j:=m)
  show 3*cde n b m+dg n b m<3^(m+1)
  rw [Nat.pow_succ];omega
theorem aKd {n:Nat} {b:Nat→Nat} {j:Nat} (h0:dg n b j=0):∀m,j<m→cde n b m+1<3^m
 |0,h=>by omega
 |m+1,h=>by
  have h1:=aKX (n:=n) (b:=b) m
  have h2:=aJw (n:=n) (b:=b) (j:=m)
  show 3*cde n b m+dg n b m+1<3^(m+1)
  rw [Nat.pow_succ]
  by_cases e:j=m
  ·subst e;rw [h0];omega
  ·have:=aKd h0 m (by omega);omega
theorem aI1 {n:Nat} {b b':Nat→Nat}:∀m,cde n b m=cde n b' m→∀j,j<m→dg n b j=dg n b' j
 |0,_,j,hj=>by omega
 |m+1,h,j,hj=>by
  have h1:=aJw (n:=n) (b:=b) (j:=m)
  have h2:=aJw (n:=n) (b:=b') (j:=m)
  have h3:3*cde n b m+dg n b m=3*cde n b' m+dg n b' m:=h
  by_cases e:j=m
  ·subst e;omega
  ·exact aI1 m (by omega) j (by omega)
theorem SI.last {n:Nat} {Z T:Nat→Nat→Rat} {b:Nat→Nat} {c:Nat} (h:SI n Z T b c):mem n b (2*n):=by
 refine Classical.byContradiction fun hno=>?_
 have hc:=h.hc
 have lt:∀i,i<n→b i<2*n:=fun i hi=>by
  have:=h.hb i hi
  have:b i≠2*n:=fun e=>hno ⟨i,hi,e⟩
  omega
 have hq:=aDA hc
 have f2:∀i,i<n→zT n (b i)≠zT n c:=fun i hi e=>by
  rcases aCw (lt i hi) hc e with h1|h1
  ·exact h.cb.nc i hi h1
  ·exact h.cb.np hc i hi h1
 have:=pig n (n-1) (fun i=>if zT n (b i)<zT n c then zT n (b i) else zT n (b i)-1) (fun i hi=>by
  have a:=aDA (lt i hi)
  have b:=f2 i hi
  show(if zT n (_)<zT n c then _ else _)<n-1
  split<;>omega) (fun i j hi hj e=>by
  have a:=f2 i hi
  have b':=f2 j hj
  have e':(if zT n (b i)<zT n c then zT n (b i) else zT n (b i)-1)=(if zT n (b j)<zT n c then zT n (b j) else zT n (b j)-1):=e
  have e3:zT n (b i)=zT n (b j):=by split at e'<;>split at e'<;>omega
  rcases aCw (lt i hi) (lt j hj) e3 with h1|h1
  ·exact h.inj i j hi hj h1
  ·exact absurd h1 (h.cb.pr j i hj hi (lt j hj)))
 omega
theorem aPb {n:Nat} {b b':Nat→Nat} (hb:∀i,i<n→b i≤2*n) (hp:∀i j,i<n→j<n→b i<2*n→b j≠cpl n (b i)) (hb':∀i,i<n→b' i≤2*n) (hp':∀i j,i<n→j<n→b' i<2*n→b' j≠cpl n (b' i)) (h:∀j,j<n→dg n b j=dg n b' j) (hl:mem n b (2*n)↔mem n b' (2*n)) (v:Nat):mem n b v↔mem n b' v:=by
 have both:∀{b:Nat→Nat},(∀i j,i<n→j<n→b i<2*n→b j≠cpl n (b i))→∀j,j<n→mem n b j→¬mem n b (n+j):=fun hp j hj h1 h2=>by
  obtain⟨i,i1,i2⟩:=h1
  obtain⟨k,k1,k2⟩:=h2
  refine hp i k i1 k1 (by omega) ?_
  rw [k2,i2];unfold cpl;rw [if_pos hj];omega
 by_cases e1:v<n
 ·have:=h v e1
  unfold dg at this
  constructor
  ·intro h1;rw [if_pos h1] at this
   refine Classical.byContradiction fun h2=>?_
   rw [if_neg h2] at this;split at this<;>omega
  ·intro h1;rw [if_pos h1] at this
   refine Classical.byContradiction fun h2=>?_
   rw [if_neg h2] at this;split at this<;>omega
 ·by_cases e2:v<2*n
  ·obtain⟨j,rfl⟩:∃j,v=n+j:=⟨v-n,by omega⟩
   have hj:j<n:=by omega
   have:=h j hj
   unfold dg at this
   constructor
   ·intro h1
    rw [if_neg (fun h3=>both hp j hj h3 h1),if_pos h1] at this
    refine Classical.byContradiction fun h2=>?_
    rw [if_neg h2] at this;split at this<;>omega
   ·intro h1
    rw [if_neg (fun h3=>both hp' j hj h3 h1),if_pos h1] at this
    refine Classical.byContradiction fun h2=>?_
    rw [if_neg h2] at this;split at this<;>omega
  ·by_cases e3:v=2*n
   ·rw [e3];exact hl
   ·constructor
    ·rintro⟨i,i1,i2⟩;have:=hb i i1;omega
    ·rintro⟨i,i1,i2⟩;have:=hb' i i1;omega
theorem Run.short {n N:Nat} {Z:Nat→Nat→Rat} {TT:Nat→Nat→Nat→Rat} {BB:Nat→Nat→Nat} {CC:Nat→Nat} (h:Run n Z TT BB CC N):N+2≤3^n:=by
 have hc0:=(h.si 0 (by omega)).hc
 have lt:∀k,k<N+1→cde n (BB k) n<3^n-1:=fun k hk=>by
  have hs:=h.si k (by omega)
  have hc:=hs.hc
  have h0:dg n (BB k) (zT n (CC k))=0:=by
   have a1:¬mem n (BB k) (CC k):=fun⟨i,i1,i2⟩=>hs.cb.nc i i1 i2
   have a2:¬mem n (BB k) (cpl n (CC k)):=fun⟨i,i1,i2⟩=>hs.cb.np hc i i1 i2
   unfold dg zT
   unfold cpl at a2
   by_cases e:CC k<n
   ·rw [if_pos e] at a2 ⊢
    rw [if_neg a1,if_neg (by rw [Nat.add_comm];exact a2)]
   ·rw [if_neg e] at a2 ⊢
    rw [if_neg a2,if_neg (by rw [show n+(CC k-n)=CC k by omega];exact a1)]
  have:=aKd h0 n (aDA hc)
  omega
 have:=pig (N+1) (3^n-1) (fun k=>cde n (BB k) n) lt (fun i j hi hj e=>by
  have same:∀v,mem n (BB i) v↔mem n (BB j) v:=by
   have si:=h.si i (by omega)
   have sj:=h.si j (by omega)
   exact aPb si.hb si.cb.pr sj.hb sj.cb.pr (aI1 n e) ⟨fun _=>sj.last,fun _=>si.last⟩
  rcases Nat.lt_trichotomy i j with h1|h1|h1
  ·exact(h.distinct h1 (by omega) same).elim
  ·exact h1
  ·exact(h.distinct h1 (by omega) fun v=>(same v).symm).elim)
 omega
end Go.Proofs.YtolfcbpgmfbgmaaGreat
set_option linter.unusedVariables false
namespace Go.Proofs.YtolfcbpgmfbgmaaGreat
end Go.Proofs.YtolfcbpgmfbgmaaGreat
set_option linter.unusedVariables false
namespace Go.Proofs.YtolfcbpgmfbgmaaGreat
end Go.Proofs.YtolfcbpgmfbgmaaGreat
set_option linter.unusedVariables false
namespace Go.Proofs.YtolfcbpgmfbgmaaGreat
end Go.Proofs.YtolfcbpgmfbgmaaGreat
set_option linter.unusedVariables false
namespace Go.Proofs.YtolfcbpgmfbgmaaGreat
end Go.Proofs.YtolfcbpgmfbgmaaGreat
set_option linter.unusedVariables false
namespace Go.Proofs.YtolfcbpgmfbgmaaGreat
theorem aLp {n B:Nat} {T:Nat→Nat→Rat} {b:Nat→Nat} (hT:z6 n (2*n+2) B T) (hB:1≤B):∀i,i≤n→∀j,Bd B (szv T b n i j)
 |0,_,j=>Bd.zero.mono hB
 |i+1,h,j=>by
  have ih:=aLp (b:=b) hT hB i (by omega)
  unfold szv
  split
  ·exact ih j
  ·split
   ·by_cases e:j=b i-n
    ·subst e;rw [bG];exact hT i _ (by omega) (by omega)
    ·rw [cP e];exact ih j
   ·exact ih j
theorem aNR {n most B:Nat} {Z:Nat→Nat→Rat} (hZ:Sm n B Z) (hB:1≤B):∀(f:Nat) (T:Nat→Nat→Rat) (b:Nat→Nat) (r c cnt:Nat),LI n Z T b r c→(lem n most f T b r c cnt).2=0→(lem n most f T b r c cnt).1.z.length=n∧Bds B (lem n most f T b r c cnt).1.z
 |0,T,b,r,c,cnt,h,h0=>absurd (show(16:Int)=0 from h0) (by decide)
 |f+1,T,b,r,c,cnt,h,h0=>by
  unfold lem at h0 ⊢
  by_cases e:cnt=most
  ·rw [if_pos e] at h0;exact absurd h0 (by decide)
  ·rw [if_neg e] at h0 ⊢
   have hcw:=h.hc
   by_cases e2:b r=2*n
   ·rw [if_pos e2]
    have ti':=h.ti.pivot h.hr (show c<2*n+2 by omega) h.hp
    exact⟨bB _ _,wK fun j _=>aLp (hZ _ _ ti') hB n (Nat.le_refl _) j⟩
   ·rw [if_neg e2] at h0 ⊢
    cases hs:sel (sO T r c) n (if b r<n then b r+n else b r-n) n 0 none with
    |none=>rw [hs] at h0;exact absurd (show(15:Int)=0 from h0) (by decide)
    |some r'=>
     rw [hs] at h0
     exact aNR hZ hB f _ _ _ _ _ (h.next e2 hs) h0
theorem aPD {M:Nat→Nat→Rat} {q:Nat→Rat} {n B most:Nat} (hZ:Sm n B (uL M q n)) (hB:1≤B) (h0:(z4 M q n most).2=0):(z4 M q n most).1.z.length=n∧Bds B (z4 M q n most).1.z:=by
 unfold z4 at h0 ⊢
 by_cases hneg:ng q n 0=true
 ·rw [hneg,bX] at h0 ⊢
  exact aNR hZ hB _ _ _ _ _ _ (aGx (aBJ n 0 0 (aD5 hneg) (by omega))) h0
 ·have hneg':ng q n 0=false:=by cases h:ng q n 0 with|true=>exact absurd h hneg|false=>rfl
  rw [hneg',bR]
  exact⟨bB _ _,wK fun j _=>Bd.zero.mono hB⟩
theorem pw4 {D k m:Nat} (h:D≤2^k) (e:4*k+56=m):64*(2^50*(D*D*D*D))≤2^m:=by
 have e2:=Nat.mul_le_mul (Nat.mul_le_mul (Nat.mul_le_mul h h) h) h
 rw [←Nat.pow_add,←Nat.pow_add,←Nat.pow_add] at e2
 have e3:=Nat.mul_le_mul (Nat.le_refl (2^6)) (Nat.mul_le_mul (Nat.le_refl (2^50)) e2)
 rw [←Nat.pow_add,←Nat.pow_add] at e3
 rw [show m=6+(50+(k+k+k+k)) by omega]
 exact e3
theorem pw8 {D k m:Nat} (h:D≤256^k) (e:8*k=m):D≤2^m:=by
 rw [show(256:Nat)=2^8 from rfl,←Nat.pow_mul,e] at h;exact h
theorem pwn {x k m n:Nat} (h:x≤2^k) (e:k*n<m):x^n<2^m:=by
 refine Nat.lt_of_le_of_lt (Nat.pow_le_pow_left h n) ?_
 rw [←Nat.pow_mul]
 exact Nat.pow_lt_pow_right (by decide) e
theorem sizes {D n sz:Nat} (hs:sz=100000) (hD:D≤256^149) (hn:n≤20):(64*(2^50*(D*D*D*D)))^n<2^sz:=
 pwn (pw4 (pw8 hD (m:=1192) (by decide)) (m:=4824) (by decide)) (by omega)
end Go.Proofs.YtolfcbpgmfbgmaaGreat
set_option linter.unusedVariables false
namespace Go.Proofs.YtolfcbpgmfbgmaaGreat
theorem dn_q {p q:Int} {m:Nat} (hp:p.natAbs≤m) (h1:1≤q) (h3:q≤3):dn 6 1 (6*m) ((p:Rat)/q):=by
 have key:∀k:Int,((q:Rat)⁻¹)*6=(k:Rat)→k.natAbs≤6→dn 6 1 (6*m) ((p:Rat)/q):=fun k hk hk6=>
  ⟨p*k,by
   have e:((6^1:Nat):Rat)=6:=rfl
   rw [Rat.div_def,Rat.intCast_mul,←hk,e,Rat.mul_assoc],by rw [Int.natAbs_mul,Nat.mul_comm];exact Nat.mul_le_mul hk6 hp⟩
 obtain rfl|rfl|rfl:q=1∨q=2∨q=3:=by omega
 ·exact key 6 (by decide+kernel) (by decide)
 ·exact key 3 (by decide+kernel) (by decide)
 ·exact key 2 (by decide+kernel) (by decide)
theorem aBd {p q:Int} {m:Nat} (hp:p.natAbs≤m) (h1:1≤q) (h3:q≤3) (hm:m≤100):∃r,qof p q=some r∧dn 6 1 (6*m) r:=by
 obtain⟨r,r1,r2,_⟩:=aPp (k:=8) (p:=p) (q:=q) (by omega) (by omega) (by omega) (by omega)
 exact⟨r,r1,by rw [r2];exact dn_q hp h1 h3⟩
theorem xL {x:Rat} (h:dn 6 2 4000 x):Bd 12 x:=by
 obtain⟨z,h1,h2⟩:=h
 have e:((6^2:Nat):Rat)=36:=rfl
 have h36:((36:Int):Rat)≠0:=by decide+kernel
 have e2:((36:Int):Rat)=36:=rfl
 have:x=(z:Rat)/((36:Int):Rat):=by
  rw [←h1,e,e2,Rat.div_def,Rat.mul_assoc,Rat.mul_inv_cancel _ (by rw [←e2];exact h36),Rat.mul_one]
 rw [this]
 exact Bd.of (by omega) (by omega) (by decide)
theorem aGw {m:Nat} {x:Rat} (h:dn 6 1 m x) (hm:m*6≤4000):dn 6 2 4000 x:=h.up.mono hm
theorem aKp {x:Int} (hx:0≤x∧x<60):∃r,jX x=some r∧dn 6 1 24 r:=by
 obtain⟨v,v1,v2,v3⟩:=vJ (x:=x) (by omega) (m:=60) (by omega)
 unfold jX
 rw [v1,oB]
 by_cases h:v<24
 ·exact⟨0,by rw [dT h,bX],dn.zero⟩
 ·have m9:=aLF (a:=v) (m:=9) v2 (by omega)
  have m3:=aLF (a:=v/9) (m:=3) (by omega) (by omega)
  obtain⟨r,r1,r2⟩:=aBd (p:=v%9-4) (q:=1+v/9%3) (m:=4) (by omega) (by omega) (by omega) (by omega)
  exact⟨r,by rw [dF h,bR,tL v2 (by omega),oB,oZ (by omega),oB,vU v2 (by omega) (by omega),oB,tL (by omega) (by omega),oB,oZ (by omega),oB,r1,oB],r2⟩
def vn (l:List Int) (j:Nat):Rat:=((cC l (j:Int) 60).bind jX).getD 0
def mvn (l:List Int) (r c:Nat):Rat:=vn l (3+6*r+c)
def vw (l:List Int) (i:Nat):Rat:=((cC l ((40+i:Nat):Int) 13).bind fun a=>(cC l ((47+i:Nat):Int) 2).bind fun b=>qof (a-8) (1+b)).getD 0
theorem aLl {l:List Int} (hl:xP l) (r c:Nat):∃v,cC l ((3+6*r+c:Nat):Int) 60=some v∧jX v=some (mvn l r c)∧dn 6 1 24 (mvn l r c):=by
 obtain⟨v,v1,v2,v3⟩:=aEK hl ((3+6*r+c:Nat):Int) (m:=60) (by omega)
 obtain⟨x,x1,x2⟩:=aKp ⟨v2,v3⟩
 have e:mvn l r c=x:=by unfold mvn vn;rw [v1,oB,x1];rfl
 exact⟨v,v1,by rw [e];exact x1,by rw [e];exact x2⟩
theorem aN7 {l:List Int} (hl:xP l) (i:Nat):∃a b,cC l ((40+i:Nat):Int) 13=some a∧aR (a-8)=some (a-8)∧cC l ((47+i:Nat):Int) 2=some b∧aR (1+b)=some (1+b)∧qof (a-8) (1+b)=some (vw l i)∧dn 6 1 48 (vw l i):=by
 obtain⟨a,a1,a2,a3⟩:=aEK hl ((40+i:Nat):Int) (m:=13) (by omega)
 obtain⟨b,b1,b2,b3⟩:=aEK hl ((47+i:Nat):Int) (m:=2) (by omega)
 obtain⟨r,r1,r2⟩:=aBd (p:=a-8) (q:=1+b) (m:=8) (by omega) (by omega) (by omega) (by omega)
 have e:vw l i=r:=by unfold vw;rw [a1,oB,b1,oB,r1];rfl
 exact⟨a,b,a1,oZ (by omega),b1,oZ (by omega),by rw [e];exact r1,by rw [e];exact r2⟩
theorem aGR {l:List Int} (hl:xP l) (r c:Nat):dn 6 1 24 (mvn l r c):=by
 obtain⟨_,_,_,h⟩:=aLl hl r c
 exact h
theorem aP7 {l:List Int} (hl:xP l) (i:Nat):dn 6 1 48 (vw l i):=by
 obtain⟨_,_,_,_,_,_,_,h⟩:=aN7 hl i
 exact h
theorem aLs {l:List Int} (hl:xP l) (r c:Nat):Bd 12 (mvn l r c):=xL (aGw (aGR hl r c) (by omega))
theorem aI2 {l:List Int} (hl:xP l) {n r:Nat} (hr:r≤10) (hn:n≤10) (K:Nat):∀(t i k:Nat),i+t=n→t<k→eN K l (n:Int) (r:Int) k (mp (mvn l r) i) (i:Int)=some (mp (mvn l r) n)
 |0,i,k,hi,hk=>by
  have:i=n:=by omega
  subst this
  obtain⟨k',rfl,_⟩:=bJ hk
  simp only [eN,dF (show¬(i:Int)<(i:Int) by omega),bR]
 |t+1,i,k,hi,hk=>by
  obtain⟨k',rfl,hk'⟩:=bJ hk
  have e1:aR (6*(r:Int))=some ((6*r:Nat):Int):=zX (m:=0) (by omega) (by omega)
  have e2:aR (3+((6*r:Nat):Int))=some ((3+6*r:Nat):Int):=zX (m:=0) (by omega) (by omega)
  have e3:aR (((3+6*r:Nat):Int)+(i:Int))=some ((3+6*r+i:Nat):Int):=zX (m:=0) (by omega) (by omega)
  obtain⟨v,v1,v2,_⟩:=aLl hl r i
  simp only [eN,dT (show(i:Int)<(n:Int) by omega),bX,e1,e2,e3,oB,v1,v2,apM (g:=mvn l r) (i:=i) (by omega),uZ (i:=i) (by omega)]
  exact aI2 hl hr hn K t (i+1) k' (by omega) (by omega)
theorem aLx {l:List Int} (hl:xP l) {n:Nat} (hn:n≤10) {K:Nat} (hK:n<K):∀(t i k:Nat),i+t=n→t<k→eA K l (n:Int) k (mp (vw l) i) (mx (mvn l) i n) (i:Int)=some (mp (vw l) n,mx (mvn l) n n)
 |0,i,k,hi,hk=>by
  have:i=n:=by omega
  subst this
  obtain⟨k',rfl,_⟩:=bJ hk
  simp only [eA,dF (show¬(i:Int)<(i:Int) by omega),bR]
 |t+1,i,k,hi,hk=>by
  obtain⟨k',rfl,hk'⟩:=bJ hk
  have h1:=aI2 hl (n:=n) (r:=i) (by omega) hn K n 0 K (by omega) hK
  simp only [Int.natCast_zero,zI] at h1
  have e1:aR (40+(i:Int))=some ((40+i:Nat):Int):=zX (m:=0) (by omega) (by omega)
  have e2:aR (47+(i:Int))=some ((47+i:Nat):Int):=zX (m:=0) (by omega) (by omega)
  have e3:sD (mx (mvn l) i n) [mp (mvn l i) n]=some (mx (mvn l) (i+1) n):=apM (g:=fun r=>mp (mvn l r) n) (by omega)
  obtain⟨a,b,a1,a2,b1,b2,c1,_⟩:=aN7 hl i
  simp only [eA,dT (show(i:Int)<(n:Int) by omega),bX,h1,oB,lR,e3,e1,a1,a2,e2,b1,b2,c1,apM (g:=vw l) (i:=i) (by omega),uZ (i:=i) (by omega)]
  exact aLx hl hn hK t (i+1) k' (by omega) (by omega)
def gm (l:List Int) (n i k:Nat):Rat:=sm (fun c=>mvn l i c*mvn l k c) n
def gmd (d:Bool) (l:List Int) (n i k:Nat):Rat:=if d=true∧k=i then gm l n i i+1 else gm l n i k
theorem aOS {f:Nat→Rat} {D e M:Nat}:∀n,(∀c,c<n→dn D e M (f c))→dn D e (n*M) (sm f n)
 |0,_=>dn.zero
 |n+1,h=>by
  rw [Nat.succ_mul]
  exact(aOS n fun c hc=>h c (by omega)).add (h n (by omega))
theorem aJE {l:List Int} (hl:xP l) {n:Nat} (hn:n≤6) (i k:Nat):dn 6 2 3500 (gm l n i k):=
 (aOS (M:=576) n fun c _=>(aGR hl i c).mul (aGR hl k c)).mono (by omega)
theorem aGU:dn 6 2 36 (1:Rat):=⟨36,by decide+kernel,by decide⟩
theorem aLk {d:Bool} {l:List Int} (hl:xP l) {n:Nat} (hn:n≤6) (i k:Nat):dn 6 2 4000 (gmd d l n i k):=by
 unfold gmd
 split
 ·exact((aJE hl hn i i).add aGU).mono (by omega)
 ·exact(aJE hl hn i k).mono (by omega)
theorem aLO {l:List Int} (hl:xP l) {n:Nat} (hn:n≤6) {K:Nat} (hK:n<K) (i k:Nat):kR K (mp (mvn l i) n) (mp (mvn l k) n)=some (gm l n i k):=
 (aMG (fun c _=>aLs hl i c) (fun c _=>aLs hl k c) (by omega) (by omega) hK).2
theorem aJD {l:List Int} (hl:xP l) {n i:Nat} (hi:i<n) (hn:n≤6) {K:Nat} (hK:n<K):∀(t c k:Nat),c+t=n→t<k→eV K (n:Int) (mx (mvn l) n n) (i:Int) k (mp (gm l n i) c) (c:Int)=some (mp (gm l n i) n)
 |0,c,k,hc,hk=>by
  have:c=n:=by omega
  subst this
  obtain⟨k',rfl,_⟩:=bJ hk
  simp only [eV,dF (show¬(c:Int)<(c:Int) by omega),bR]
 |t+1,c,k,hc,hk=>by
  obtain⟨k',rfl,hk'⟩:=bJ hk
  simp only [eV,dT (show(c:Int)<(n:Int) by omega),bX,aAS (g:=mvn l) (w:=n) hi,aAS (g:=mvn l) (w:=n) (show c<n by omega),oB,aLO hl hn hK i c,apM (g:=gm l n i) (i:=c) (by omega),uZ (i:=c) (by omega)]
  exact aJD hl hi hn hK t (c+1) k' (by omega) (by omega)
theorem aJY {l:List Int} (hl:xP l) {n i:Nat} (hi:i<n) (hn:n≤6) {K:Nat} (hK:n<K):∀(t c k:Nat),c+t=n→t<k→eY K (n:Int) (mx (mvn l) n n) (i:Int) k (mp (gm l n i) c) (c:Int)=some (mp (gm l n i) n)
 |0,c,k,hc,hk=>by
  have:c=n:=by omega
  subst this
  obtain⟨k',rfl,_⟩:=bJ hk
  simp only [eY,dF (show¬(c:Int)<(c:Int) by omega),bR]
 |t+1,c,k,hc,hk=>by
  obtain⟨k',rfl,hk'⟩:=bJ hk
  simp only [eY,dT (show(c:Int)<(n:Int) by omega),bX,aAS (g:=mvn l) (w:=n) hi,aAS (g:=mvn l) (w:=n) (show c<n by omega),oB,aLO hl hn hK i c,apM (g:=gm l n i) (i:=c) (by omega),uZ (i:=c) (by omega)]
  exact aJY hl hi hn hK t (c+1) k' (by omega) (by omega)
theorem aQr:Bd 12 (1:Rat):=xL (aGU.mono (by omega))
theorem aIZ {d:Bool} {l:List Int} {n i:Nat} (hi:i<n):(if d=true then mp (nP (gm l n i) i (gm l n i i+1)) n else mp (gm l n i) n)=mp (gmd d l n i) n:=by
 cases d with
 |true=>
  rw [if_pos rfl]
  refine iV fun j hj=>?_
  unfold gmd
  by_cases e:j=i
  ·subst e;rw [bG,if_pos ⟨rfl,rfl⟩]
  ·rw [cP e,if_neg (fun h=>e h.2)]
 |false=>
  rw [if_neg (by decide)]
  exact iV fun j hj=>by unfold gmd;rw [if_neg (fun h=>absurd h.1 (by decide))]
theorem aJ8 {l:List Int} (hl:xP l) {n:Nat} {v5:Int} (hn:n≤6) {K:Nat} (hK:n<K):∀(t i k:Nat),i+t=n→t<k→cM K (n:Int) v5 (mx (mvn l) n n) k (mx (gmd (v5==2) l n) i n) (i:Int)=some (mx (gmd (v5==2) l n) n n)
 |0,i,k,hi,hk=>by
  have:i=n:=by omega
  subst this
  obtain⟨k',rfl,_⟩:=bJ hk
  simp only [cM,dF (show¬(i:Int)<(i:Int) by omega),bR]
 |t+1,i,k,hi,hk=>by
  obtain⟨k',rfl,hk'⟩:=bJ hk
  have h1:=aJD hl (n:=n) (i:=i) (by omega) hn hK n 0 K (by omega) hK
  simp only [Int.natCast_zero,zI] at h1
  have e3:sD (mx (gmd (v5==2) l n) i n) [mp (gmd (v5==2) l n i) n]=some (mx (gmd (v5==2) l n) (i+1) n):=apM (g:=fun r=>mp (gmd (v5==2) l n r) n) (by omega)
  have e4:=aIZ (d:=v5==2) (l:=l) (show i<n by omega)
  have b1:Bd 12 (gm l n i i):=xL ((aJE hl hn i i).mono (by omega))
  have ih:=aJ8 hl (v5:=v5) hn hK t (i+1) k' (by omega) (by omega)
  simp only [cM,dT (show(i:Int)<(n:Int) by omega),bX,h1,oB,l5]
  cases hd:(v5==2) with
  |true=>
   rw [hd] at e3 e4 ih
   rw [if_pos rfl] at e4
   simp only [bX,jP (f:=gm l n i) (show i<n by omega),oB,aLV,aAR b1 aQr (by omega) (by omega),aAg (f:=gm l n i) (show i<n by omega),e4,e3,uZ (i:=i) (by omega)]
   exact ih
  |false=>
   rw [hd] at e3 e4 ih
   rw [if_neg (by decide)] at e4
   simp only [bR,e4,e3,oB,uZ (i:=i) (by omega)]
   exact ih
theorem aJc {l:List Int} (hl:xP l) {n:Nat} {v5:Int} (hn:n≤6) {K:Nat} (hK:n<K):∀(t i k:Nat),i+t=n→t<k→cO K (n:Int) v5 (mx (mvn l) n n) k (mx (gmd (v5==2) l n) i n) (i:Int)=some (mx (gmd (v5==2) l n) n n)
 |0,i,k,hi,hk=>by
  have:i=n:=by omega
  subst this
  obtain⟨k',rfl,_⟩:=bJ hk
  simp only [cO,dF (show¬(i:Int)<(i:Int) by omega),bR]
 |t+1,i,k,hi,hk=>by
  obtain⟨k',rfl,hk'⟩:=bJ hk
  have h1:=aJY hl (n:=n) (i:=i) (by omega) hn hK n 0 K (by omega) hK
  simp only [Int.natCast_zero,zI] at h1
  have e3:sD (mx (gmd (v5==2) l n) i n) [mp (gmd (v5==2) l n i) n]=some (mx (gmd (v5==2) l n) (i+1) n):=apM (g:=fun r=>mp (gmd (v5==2) l n r) n) (by omega)
  have e4:=aIZ (d:=v5==2) (l:=l) (show i<n by omega)
  have b1:Bd 12 (gm l n i i):=xL ((aJE hl hn i i).mono (by omega))
  have ih:=aJc hl (v5:=v5) hn hK t (i+1) k' (by omega) (by omega)
  simp only [cO,dT (show(i:Int)<(n:Int) by omega),bX,h1,oB,lX]
  cases hd:(v5==2) with
  |true=>
   rw [hd] at e3 e4 ih
   rw [if_pos rfl] at e4
   simp only [bX,jP (f:=gm l n i) (show i<n by omega),oB,aLV,aAR b1 aQr (by omega) (by omega),aAg (f:=gm l n i) (show i<n by omega),e4,e3,uZ (i:=i) (by omega)]
   exact ih
  |false=>
   rw [hd] at e3 e4 ih
   rw [if_neg (by decide)] at e4
   simp only [bR,e4,e3,oB,uZ (i:=i) (by omega)]
   exact ih
theorem aQh {α:Type} {f:Nat→α} {n m:Nat} (h:m≤n):slL (mp f n) 0 (m:Int)=some (mp f m):=by
 unfold slL
 rw [if_pos ⟨by omega,by omega,by rw [bB];omega⟩]
 congr 1
 apply List.ext_getElem?
 intro j
 have e0:(0:Int).toNat=0:=rfl
 rw [e0,List.drop_zero,List.getElem?_take,Int.toNat_natCast,Nat.sub_zero]
 by_cases hj:j<m
 ·rw [if_pos hj,zY (by omega),zY hj]
 ·rw [if_neg hj,List.getElem?_eq_none (by rw [bB];omega)]
def PB6 (n:Nat) (M:Nat→Nat→Rat) (q:Nat→Rat):Prop:=(∀i c,i<n→c<n→dn 6 2 4000 (M i c))∧∀i,i<n→dn 6 2 4000 (q i)
theorem aIA {l:List Int} (hl:xP l) {most:Nat} (hm:most≤6) (hm1:4≤most):∃(n:Nat) (M:Nat→Nat→Rat) (q:Nat→Rat),n≤most∧PB6 n M q∧∀K,100≤K→kT K l (most:Int)=some (mx M n n,mp q n):=by
 obtain⟨v,v1,v2,v3⟩:=aEK hl 0 (m:=((most+1:Nat):Int)) (by omega)
 obtain⟨w,w1,w2,w3⟩:=aEK hl 1 (m:=5) (by omega)
 obtain⟨n,rfl⟩:∃n:Nat,v=n:=⟨v.toNat,by omega⟩
 have e0:aR ((most:Int)+1)=some ((most+1:Nat):Int):=uZ (by omega)
 have hq:∀i,dn 6 2 4000 (vw l i):=fun i=>aGw (aP7 hl i) (by omega)
 have hM:∀i c,dn 6 2 4000 (mvn l i c):=fun i c=>aGw (aGR hl i c) (by omega)
 have hF:∀K,100≤K→kT K l (most:Int)=cY K l (n:Int) w (mp (vw l) n) (mx (mvn l) n n):=fun K hK=>by
  have h1:=aLx hl (n:=n) (by omega) (K:=K) (by omega) n 0 K (by omega) (by omega)
  have z:mx (mvn l) 0 n=[]:=rfl
  simp only [Int.natCast_zero,zI,z] at h1
  simp only [kT,e0,oB,v1,w1,h1]
 have hG:∀K,100≤K→cM K (n:Int) w (mx (mvn l) n n) K [] 0=some (mx (gmd (w==2) l n) n n):=fun K hK=>by
  have h1:=aJ8 hl (n:=n) (v5:=w) (by omega) (K:=K) (by omega) n 0 K (by omega) (by omega)
  have z:mx (gmd (w==2) l n) 0 n=[]:=rfl
  simpa only [Int.natCast_zero,z] using h1
 have hG':∀K,100≤K→cO K (n:Int) w (mx (mvn l) n n) K [] 0=some (mx (gmd (w==2) l n) n n):=fun K hK=>by
  have h1:=aJc hl (n:=n) (v5:=w) (by omega) (K:=K) (by omega) n 0 K (by omega) (by omega)
  have z:mx (gmd (w==2) l n) 0 n=[]:=rfl
  simpa only [Int.natCast_zero,z] using h1
 by_cases c0:w=0
 ·exact⟨n,mvn l,vw l,by omega,⟨fun i c _ _=>hM i c,fun i _=>hq i⟩,fun K hK=>by rw [hF K hK];unfold cY;rw [qT c0,bX]⟩
 by_cases c1:n=0
 ·exact⟨n,mvn l,vw l,by omega,⟨fun i c _ _=>hM i c,fun i _=>hq i⟩,fun K hK=>by rw [hF K hK];unfold cY;rw [qF c0,bR,qT (show(n:Int)=0 by omega),bX]⟩
 by_cases c4:w=4
 ·by_cases cn:4≤n
  ·obtain⟨m1,a1,a2,a3⟩:=aEK hl 2 (m:=4) (by omega)
   obtain⟨m2,b1,b2,b3⟩:=aEK hl 3 (m:=5) (by omega)
   obtain⟨mu,p1,p2⟩:=aBd (p:=m1) (q:=2) (m:=3) (by omega) (by omega) (by omega) (by omega)
   obtain⟨c,r1,r2⟩:=aBd (p:=m2-2) (q:=2) (m:=2) (by omega) (by omega) (by omega) (by omega)
   obtain⟨two,s1,s2⟩:=aBd (p:=2) (q:=1) (m:=2) (by omega) (by omega) (by omega) (by omega)
   obtain⟨mi,t1,t2⟩:=aBd (p:=-1) (q:=1) (m:=1) (by omega) (by omega) (by omega) (by omega)
   have d2:=aGw p2 (by omega)
   have d3:=aGw r2 (by omega)
   have d4:=aGw s2 (by omega)
   have d5:=aGw t2 (by omega)
   have d6:dn 6 2 4000 (1:Rat):=aGU.mono (by omega)
   have n1:=aDZ (xL d3) (by omega)
   have n2:=aDZ (xL d4) (by omega)
   have sl:slL (mp (vw l) n) 0 3=some (mp (vw l) 3):=aQh (m:=3) (by omega)
   have ap1:sD ([]:List Rat) (mp (vw l) 3)=some (mp (vw l) 3):=yP (by rw [bB];simp)
   have ap2:sD (mp (vw l) 3) [(0:Rat)]=some (mp (nP (vw l) 3 0) 4):=by
    rw [apS (by rw [bB];omega),aD0 (nP (vw l) 3 0) 3,bG,iV (f:=vw l) (g:=nP (vw l) 3 0) fun j hj=>(cP (by omega)).symm]
   refine⟨4,fun i j=>at' (([[two,c,-c,0],[c,two,-two,1],[-c,-two,two,1],[mu,mi,mi,0]]:List (List Rat)).getD i []) j,nP (vw l) 3 0,by omega,⟨fun i j hi hj=>?_,fun i hi=>?_⟩,fun K hK=>?_⟩
   ·obtain rfl|rfl|rfl|rfl:i=0∨i=1∨i=2∨i=3:=by omega
    all_goals
     obtain rfl|rfl|rfl|rfl:j=0∨j=1∨j=2∨j=3:=by omega
     all_goals first|exact d2|exact d3|exact d4|exact d5|exact d6|exact d3.neg|exact d4.neg|exact dn.zero
   ·by_cases e:i=3
    ·subst e;rw [bG];exact dn.zero
    ·rw [cP e];exact hq i
   ·rw [hF K hK]
    unfold cY
    rw [qF c0,bR,qF (show¬(n:Int)=0 by omega),bR,qT c4,bX,dT (show(4:Int)≤(n:Int) by omega),bX]
    simp only [aLV,oB,a1,p1,b1,oZ (show -9223372036854775808≤m2-2∧m2-2≤9223372036854775807 by omega),r1,s1,t1,n1,n2,sl,ap1,ap2]
    rfl
  ·refine⟨n,gmd (w==2) l n,vw l,by omega,⟨fun i c _ _=>aLk hl (by omega) i c,fun i _=>hq i⟩,fun K hK=>?_⟩
   rw [hF K hK]
   unfold cY
   rw [qF c0,bR,qF (show¬(n:Int)=0 by omega),bR,qT c4,bX,dF (show¬(4:Int)≤(n:Int) by omega),bR,hG' K hK,oB,l7]
 ·refine⟨n,gmd (w==2) l n,vw l,by omega,⟨fun i c _ _=>aLk hl (by omega) i c,fun i _=>hq i⟩,fun K hK=>?_⟩
  rw [hF K hK]
  unfold cY
  rw [qF c0,bR,qF (show¬(n:Int)=0 by omega),bR,qF c4,bR,hG K hK,oB,lW]
theorem aJC {n:Nat} {M:Nat→Nat→Rat} {q:Nat→Rat} (h:PB6 n M q) (hn:n≤6):Sm n 200 (uL M q n):=fun T b hT=>by
 have e:((6^2:Nat):Rat)=36:=rfl
 refine(hT.bd (D:=36) (M:=4000) (k:=200) (by decide+kernel) (fun i c hi hc=>?_) (by omega) ?_)
 ·have one:isZ 4000 ((1:Rat)*36):=⟨36,by decide+kernel,by decide⟩
  have neg:isZ 4000 ((-1:Rat)*36):=⟨-36,by decide+kernel,by decide⟩
  unfold uL
  split
  ·split
   ·exact one
   ·exact⟨0,by decide+kernel,by decide⟩
  ·split
   ·rw [←e];exact(h.1 i (c-n) hi (by omega)).neg
   ·split
    ·exact neg
    ·rw [←e];exact h.2 i hi
 ·exact Nat.lt_of_le_of_lt (Nat.pow_le_pow_right (by decide) hn) (by decide)
theorem aHR {n most:Nat}:∀(f:Nat) (T:Nat→Nat→Rat) (b:Nat→Nat) (r c cnt:Nat),(lem n most f T b r c cnt).2≠0→(lem n most f T b r c cnt).1=⟨[],[],0⟩∧((lem n most f T b r c cnt).2=15∨(lem n most f T b r c cnt).2=16)
 |0,T,b,r,c,cnt,h=>⟨rfl,Or.inr rfl⟩
 |f+1,T,b,r,c,cnt,h=>by
  unfold lem at h ⊢
  split at h
  ·rename_i h1;rw [if_pos h1];exact⟨rfl,Or.inr rfl⟩
  ·rename_i h1
   rw [if_neg h1]
   split at h
   ·exact absurd rfl h
   ·rename_i h2
    rw [if_neg h2]
    split at h
    ·exact⟨rfl,Or.inl rfl⟩
    ·exact aHR f _ _ _ _ _ h
theorem aKv {n most:Nat} {M:Nat→Nat→Rat} {q:Nat→Rat} (h:(z4 M q n most).2≠0):(z4 M q n most).1=⟨[],[],0⟩∧((z4 M q n most).2=15∨(z4 M q n most).2=16):=by
 unfold z4 at h ⊢
 cases hneg:ng q n 0
 ·rw [hneg,bR] at h;exact absurd rfl h
 ·rw [hneg,bX] at h;rw [bX];exact aHR _ _ _ _ _ _ h
end Go.Proofs.YtolfcbpgmfbgmaaGreat
set_option linter.unusedVariables false
namespace Go.Proofs.YtolfcbpgmfbgmaaGreat
set_option maxRecDepth 100000 in
theorem aNs (K:Nat):oM (K+60)=some true:=by kernel_rfl
theorem aIp {K:Nat} (hK:60≤K):oM K=some true:=by
 obtain⟨k,rfl⟩:=Nat.exists_eq_add_of_le hK
 rw [Nat.add_comm];exact aNs k
end Go.Proofs.YtolfcbpgmfbgmaaGreat
set_option linter.unusedVariables false
namespace Go.Proofs.YtolfcbpgmfbgmaaGreat
theorem aC6 {w b B:Nat} (h:w*(b+1)≤B) (hw:0<w):b+1≤B:=Nat.le_trans (Nat.le_mul_of_pos_left (b+1) hw) h
theorem aLt {f:Nat→Rat} {w b:Nat} (hf:∀c,c<w→Bd b (f c)) (hB:w*(b+1)≤1000000000) (hw:w≤1000) (K:Nat):∀(t i k:Nat),i+t=w→t<k→Bd (1+i*(b+1)) (sm f i)→sM K (mp f w) k (sm f i) (i:Int)=some (sm f w)
 |0,i,k,hi,hk,ha=>by
  obtain⟨k',rfl,_⟩:=bJ hk
  have:i=w:=by omega
  subst this
  simp only [sM,bB,dF (show¬(i:Int)<(i:Int) by omega),bR]
 |t+1,i,k,hi,hk,ha=>by
  obtain⟨k',rfl,_⟩:=bJ hk
  have hx:=hf i (by omega)
  have hb:=aC6 hB (by omega)
  have hib:i*(b+1)≤w*(b+1):=Nat.mul_le_mul_right _ (by omega)
  have hs:1+i*(b+1)+b+1=1+(i+1)*(b+1):=by rw [Nat.add_mul];omega
  simp only [sM,bB,dT (show(i:Int)<(w:Int) by omega),bX,jP (f:=f) (show i<w by omega),oB,aAR ha hx (by omega) (by omega),uZ (i:=i) (by omega)]
  exact aLt hf hB hw K t (i+1) k' (by omega) (by omega) (by simp only [sm];exact(ha.add hx).mono (by omega))
theorem aFI {f e:Nat→Rat} {w b b':Nat} (hf:∀c,c<w→Bd b (f c)) (he:∀c,c<w→Bd b' (e c)) (hB:w*(b+b'+1)≤1000000000) (hw:w≤1000) (K:Nat):∀(t i k:Nat),i+t=w→t<k→rF K (mp f w) (mp e w) k (mp (fun c=>f c*e c) i) (i:Int)=some (mp (fun c=>f c*e c) w)
 |0,i,k,hi,hk=>by
  obtain⟨k',rfl,_⟩:=bJ hk
  have:i=w:=by omega
  subst this
  simp only [rF,bB,Int.min_self,dF (show¬(i:Int)<(i:Int) by omega),bR]
 |t+1,i,k,hi,hk=>by
  obtain⟨k',rfl,_⟩:=bJ hk
  have hb:=aC6 hB (by omega)
  simp only [rF,bB,Int.min_self,dT (show(i:Int)<(w:Int) by omega),bX,jP (f:=f) (show i<w by omega),jP (f:=e) (show i<w by omega),oB,aEb (hf i (by omega)) (he i (by omega)) (by omega) (by omega),apM (g:=fun c=>f c*e c) (i:=i) (by omega),uZ (i:=i) (by omega)]
  exact aFI hf he hB hw K t (i+1) k' (by omega) (by omega)
theorem aLZ {f e:Nat→Rat} {w b b':Nat} (hf:∀c,c<w→Bd b (f c)) (he:∀c,c<w→Bd b' (e c)) (hB:w*(b+b'+1)≤1000000000) (hw:w≤1000) {K:Nat} (hK:w<K):wP K (mp f w) (mp e w)=some (sm (fun c=>f c*e c) w):=by
 have h1:=aFI hf he hB hw K w 0 K (by omega) hK
 have h2:=aLt (f:=fun c=>f c*e c) (b:=b+b') (fun c hc=>(hf c hc).mul (he c hc)) hB hw K w 0 K (by omega) hK (Bd.zero.mono (by omega))
 simp only [Int.natCast_zero,zI,sm] at h1 h2
 simp only [wP,h1,oB,wU,aBR,h2,xO]
end Go.Proofs.YtolfcbpgmfbgmaaGreat
set_option linter.unusedVariables false
namespace Go.Proofs.YtolfcbpgmfbgmaaGreat
def wvl (M:Nat→Nat→Rat) (q z:Nat→Rat) (n i:Nat):Rat:=sm (fun c=>M i c*z c) n+q i
def aEi (z w:Nat→Rat):Nat→Nat→Bool
 |0,_=>true
 |t+1,i=>bif decide (0<(z i).num.sign) then(bif((w i).num.sign != 0) then false else aEi z w t (i+1)) else aEi z w t (i+1)
def ckb (M:Nat→Nat→Rat) (q z:Nat→Rat) (n:Nat):Bool:=bif ng z n 0 then false else(bif aEi z (wvl M q z n) n 0 then !(ng (wvl M q z n) n 0) else false)
theorem aKc {M:Nat→Nat→Rat} {q z:Nat→Rat} {n B B':Nat} (hM:z6 n n B M) (hq:∀i,i<n→Bd B (q i)) (hz:∀i,i<n→Bd B' (z i)) (hn:n≤8) (hB:8*(B+B'+1)≤1000000000) {K:Nat} (hK:100≤K):∀(t i k:Nat) (f:Nat→Rat),i+t=n→t<k→(∀j,j<i→f j=wvl M q z n j)→gX K (mx M n n) (mp q n) (mp z n) k (mp f n) (i:Int)=some (mp (wvl M q z n) n)
 |0,i,k,f,hi,hk,hf=>by
  obtain⟨k',rfl,_⟩:=bJ hk
  simp only [gX,rY,dF (show¬(i:Int)<(n:Int) by omega),bR]
  rw [iV fun j hj=>hf j (by omega)]
 |t+1,i,k,f,hi,hk,hf=>by
  obtain⟨k',rfl,_⟩:=bJ hk
  have hnB:n*(B+B'+1)≤1000000000:=Nat.le_trans (Nat.mul_le_mul_right _ hn) hB
  have d:=aLZ (f:=M i) (e:=z) (w:=n) (fun c hc=>hM i c (by omega) hc) hz hnB (by omega) (show n<K by omega)
  have db:=aJT (f:=M i) (e:=z) (w:=n) (fun c hc=>hM i c (by omega) hc) hz n (Nat.le_refl n)
  simp only [gX,rY,dT (show(i:Int)<(n:Int) by omega),bX,aAS (g:=M) (w:=n) (show i<n by omega),oB,d,jP (f:=q) (show i<n by omega),aAR db (hq i (by omega)) (by omega) (by omega),jP (f:=f) (show i<n by omega),aAg (f:=f) (show i<n by omega),uZ (i:=i) (by omega)]
  exact aKc hM hq hz hn hB hK t (i+1) k' _ (by omega) (by omega) (fun j hj=>by
   by_cases e:j=i
   ·rw [e,bG];rfl
   ·rw [cP e];exact hf j (by omega))
theorem aJy {z w:Nat→Rat} {n B B':Nat} (hz:∀i,i<n→Bd B (z i)) (hw:∀i,i<n→Bd B' (w i)) (hB:B≤1073741824) (hB':B'≤1073741824) (hn:n≤1000) (K:Nat):∀(t i k:Nat),i+t=n→t<k→gB K (mp z n) (mp w n) k (i:Int)=some (bif aEi z w t i then .go () else .ret false)
 |0,i,k,hi,hk=>by
  obtain⟨k',rfl,_⟩:=bJ hk
  simp only [gB,bB,dF (show¬(i:Int)<(n:Int) by omega),bR,aEi,bX]
 |t+1,i,k,hi,hk=>by
  obtain⟨k',rfl,_⟩:=bJ hk
  have ih:=aJy hz hw hB hB' hn K t (i+1) k' (by omega) (by omega)
  simp only [gB,bB,dT (show(i:Int)<(n:Int) by omega),bX,jP (f:=z) (show i<n by omega),jP (f:=w) (show i<n by omega),oB,wS (hz i (by omega)) hB,wS (hw i (by omega)) hB',uZ (i:=i) (by omega),aEi]
  cases decide (0<(z i).num.sign) with
  |true=>
   simp only [bX]
   cases((w i).num.sign != 0) with
   |true=>simp only [bX,bR]
   |false=>simp only [bR];exact ih
  |false=>simp only [bR];exact ih
theorem aIR {M:Nat→Nat→Rat} {q z:Nat→Rat} {n B B':Nat} (hM:z6 n n B M) (hq:∀i,i<n→Bd B (q i)) (hz:∀i,i<n→Bd B' (z i)) (hn:n≤8) (hB:8*(B+B'+1)≤100000000) {K:Nat} (hK:100≤K):dZ K (mx M n n) (mp q n) (mp z n)=some (ckb M q z n):=by
 have v:=aAs hM hq (by omega) (by omega) hK
 have g:=aBp (wK hz) (by omega) (show(mp z n).length≤1000 by rw [bB];omega) (show(mp z n).length<K by rw [bB];omega)
 have ngz:=(aEo hz (by omega) (show n≤1000 by omega) (show n<K by omega)).1
 have hw:∀i,i<n→Bd (200000000+B) (wvl M q z n i):=fun i hi=>by
  have hnB:n*(B+B'+1)≤100000000:=Nat.le_trans (Nat.mul_le_mul_right _ hn) hB
  have db:=aJT (f:=M i) (e:=z) (w:=n) (fun c hc=>hM i c (by omega) hc) hz n (Nat.le_refl n)
  exact(db.add (hq i hi)).mono (by omega)
 have ngw:=(aEo hw (by omega) (show n≤1000 by omega) (show n<K by omega)).1
 have l26:=aKc hM hq hz hn (by omega) hK n 0 K (fun _=>0) (by omega) (by omega) (fun j hj=>absurd hj (by omega))
 have l15:=aJy hz hw (by omega) (by omega) (show n≤1000 by omega) K n 0 K (by omega) (by omega)
 simp only [Int.natCast_zero] at l26 l15
 simp only [dZ,v,oB,Bool.not_true,bR,bB,nF (rfl:(n:Int)=(n:Int)),g,ngz,ckb]
 cases ng z n 0 with
 |true=>simp only [bX]
 |false=>
  simp only [bR,rN,bB,aHH (n:=n) (z:=(0:Rat)) (by omega),oB,l26,nX,l15]
  cases aEi z (wvl M q z n) n 0 with
  |true=>simp only [bX,oS,ngw,oB]
  |false=>simp only [bR]
end Go.Proofs.YtolfcbpgmfbgmaaGreat
set_option linter.unusedVariables false
namespace Go.Proofs.YtolfcbpgmfbgmaaGreat
theorem aLm {X:List (List aE)} (hX:X.length≤1000) (hr:∀r∈X,r.length≤1000) (K:Nat):∀(t i k:Nat),i+t=X.length→t<k→cT K X k (mp id i) (X.take i) (i:Int)=some (mp id X.length,X)
 |0,i,k,hi,hk=>by
  obtain⟨k',rfl,_⟩:=bJ hk
  have:i=X.length:=by omega
  subst this
  simp only [cT,dF (show¬(X.length:Int)<(X.length:Int) by omega),bR,List.take_length]
 |t+1,i,k,hi,hk=>by
  obtain⟨k',rfl,_⟩:=bJ hk
  have hi':i<X.length:=by omega
  have r1:bO X (i:Int)=some X[i]:=rdG (List.getElem?_eq_getElem hi')
  have hl:=hr _ (List.getElem_mem hi')
  have a1:sD ([]:List aE) X[i]=some X[i]:=yP (by simp;omega)
  have tl:(X.take i).length=i:=by rw [List.length_take];omega
  have a2:sD (mp id i) [i]=some (mp id (i+1)):=apM (g:=id) (by omega)
  have e:X.take i++[X[i]]=X.take (i+1):=by rw [List.take_append_getElem hi']
  simp only [cT,dT (show(i:Int)<(X.length:Int) by omega),bX,r1,oB,a1,tl,a2,uZ (i:=i) (by omega),e]
  exact aLm hX hr K t (i+1) k' (by omega) (by omega)
theorem aPq {X:List (List aE)}:y5 X (mp id X.length)=X:=by
 unfold y5 mp
 apply List.ext_getElem?
 intro j
 simp only [List.map_map,List.getElem?_map]
 by_cases hj:j<X.length
 ·simp [hj]
 ·rw [List.getElem?_eq_none (by simp;omega),List.getElem?_eq_none (by omega)];rfl
theorem aH0 {vld:aE→Bool} {l:List aE} {K:Nat} (h:∀x∈l,jG K x=some (vld x)) (hl:l.length≤1000):∀(t i k:Nat),i+t=l.length→t<k→gI K l k (i:Int)=some (if(l.drop i).all vld=true then .go () else .ret false)
 |0,i,k,hi,hk=>by
  obtain⟨k',rfl,_⟩:=bJ hk
  simp only [gI,dF (show¬(i:Int)<(l.length:Int) by omega),bR]
  rw [List.drop_eq_nil_of_le (by omega)];rfl
 |t+1,i,k,hi,hk=>by
  obtain⟨k',rfl,_⟩:=bJ hk
  have hi':i<l.length:=by omega
  have ih:=aH0 h hl t (i+1) k' (by omega) (by omega)
  have d1:l.drop i=l[i]::l.drop (i+1):=List.drop_eq_getElem_cons hi'
  have r1:bO l (i:Int)=some l[i]:=rdG (List.getElem?_eq_getElem hi')
  simp only [gI,dT (show(i:Int)<(l.length:Int) by omega),bX,r1,oB,h _ (List.getElem_mem hi'),uZ (i:=i) (by omega)]
  rw [d1,List.all_cons]
  cases vld l[i] with
  |true=>simp only [Bool.not_true,bR,Bool.true_and];exact ih
  |false=>simp only [Bool.not_false,bX,Bool.false_and,Bool.false_eq_true,if_false]
theorem aHz {vld:aE→Bool} {l:List aE} {K:Nat} (h:∀x∈l,jG K x=some (vld x)) (hl:l.length≤1000) (hK:l.length<K):jK K l=some (l.all vld):=by
 have e:=aH0 h hl l.length 0 K (by omega) hK
 simp only [Int.natCast_zero,List.drop_zero] at e
 simp only [jK,e,oB]
 cases l.all vld with
 |true=>simp only [if_true,m5]
 |false=>simp only [Bool.false_eq_true,if_false]
theorem aF1 {vld:aE→Bool} {l:List aE} {K:Nat} (h:∀x∈l,bT K x=some (vld x)) (hl:l.length≤1000):∀(t i k:Nat),i+t=l.length→t<k→fU K l k (i:Int)=some (if(l.drop i).all vld=true then .go () else .ret false)
 |0,i,k,hi,hk=>by
  obtain⟨k',rfl,_⟩:=bJ hk
  simp only [fU,dF (show¬(i:Int)<(l.length:Int) by omega),bR]
  rw [List.drop_eq_nil_of_le (by omega)];rfl
 |t+1,i,k,hi,hk=>by
  obtain⟨k',rfl,_⟩:=bJ hk
  have hi':i<l.length:=by omega
  have ih:=aF1 h hl t (i+1) k' (by omega) (by omega)
  have d1:l.drop i=l[i]::l.drop (i+1):=List.drop_eq_getElem_cons hi'
  have r1:bO l (i:Int)=some l[i]:=rdG (List.getElem?_eq_getElem hi')
  simp only [fU,dT (show(i:Int)<(l.length:Int) by omega),bX,r1,oB,h _ (List.getElem_mem hi'),uZ (i:=i) (by omega)]
  rw [d1,List.all_cons]
  cases vld l[i] with
  |true=>simp only [Bool.not_true,bR,Bool.true_and];exact ih
  |false=>simp only [Bool.not_false,bX,Bool.false_and,Bool.false_eq_true,if_false]
theorem aFJ {vld:aE→Bool} {l:List aE} {K:Nat} (h:∀x∈l,bT K x=some (vld x)) (hl:l.length≤1000) (hK:l.length<K):iP K l=some (l.all vld):=by
 have e:=aF1 h hl l.length 0 K (by omega) hK
 simp only [Int.natCast_zero,List.drop_zero] at e
 simp only [iP,e,oB]
 cases l.all vld with
 |true=>simp only [if_true,mD]
 |false=>simp only [Bool.false_eq_true,if_false]
theorem aFP {vld:aE→Bool} {X:List (List aE)} {Y:List aE} {n K:Nat} (h:∀r∈X,∀x∈r,jG K x=some (vld x)) (hr:∀r∈X,r.length=n) (hY:Y.length=n) (hX:X.length≤1000) (hn:n≤1000) (hK:n<K):∀(t i k:Nat),i+t=X.length→t<k→fR K X Y k (i:Int)=some (if(X.drop i).all (fun r=>r.all vld)=true then .go () else .ret false)
 |0,i,k,hi,hk=>by
  obtain⟨k',rfl,_⟩:=bJ hk
  simp only [fR,dF (show¬(i:Int)<(X.length:Int) by omega),bR]
  rw [List.drop_eq_nil_of_le (by omega)];rfl
 |t+1,i,k,hi,hk=>by
  obtain⟨k',rfl,_⟩:=bJ hk
  have hi':i<X.length:=by omega
  have ih:=aFP h hr hY hX hn hK t (i+1) k' (by omega) (by omega)
  have d1:X.drop i=X[i]::X.drop (i+1):=List.drop_eq_getElem_cons hi'
  have r1:bO X (i:Int)=some X[i]:=rdG (List.getElem?_eq_getElem hi')
  have hm:=List.getElem_mem hi'
  have hl:=hr _ hm
  have g:=aHz (h _ hm) (show X[i].length≤1000 by omega) (show X[i].length<K by omega)
  simp only [fR,dT (show(i:Int)<(X.length:Int) by omega),bX,r1,oB,hl,hY,nF (rfl:(n:Int)=(n:Int)),bR,g,uZ (i:=i) (by omega)]
  rw [d1,List.all_cons]
  cases X[i].all vld with
  |true=>simp only [Bool.not_true,bR,Bool.true_and];exact ih
  |false=>simp only [Bool.not_false,bX,Bool.false_and,Bool.false_eq_true,if_false]
theorem aKA {vld:aE→Bool} {X:List (List aE)} {Y:List aE} {n K:Nat} (h:∀r∈X,∀x∈r,jG K x=some (vld x)) (hy:∀x∈Y,jG K x=some (vld x)) (hr:∀r∈X,r.length=n) (hX:X.length=n) (hY:Y.length=n) (hn:n≤32) (hK:n<K):gA K X Y=some (Y.all vld&&X.all (fun r=>r.all vld)):=by
 have l8:=aFP h hr hY (by omega) (by omega) hK X.length 0 K (by omega) (by omega)
 have g:=aHz hy (show Y.length≤1000 by omega) (show Y.length<K by omega)
 simp only [Int.natCast_zero,List.drop_zero] at l8
 simp only [gA,hX,hY,nF (rfl:(n:Int)=(n:Int)),bR,dF (show¬(32:Int)<(n:Int) by omega),g,oB]
 cases Y.all vld with
 |false=>simp only [Bool.not_false,bX,Bool.false_and]
 |true=>
  simp only [Bool.not_true,bR,l8,oB,Bool.true_and]
  cases X.all (fun r=>r.all vld) with
  |true=>simp only [if_true,mG]
  |false=>simp only [Bool.false_eq_true,if_false]
theorem aFS {vld:aE→Bool} {X:List (List aE)} {Y:List aE} {n K:Nat} (h:∀r∈X,∀x∈r,bT K x=some (vld x)) (hr:∀r∈X,r.length=n) (hY:Y.length=n) (hX:X.length≤1000) (hn:n≤1000) (hK:n<K):∀(t i k:Nat),i+t=X.length→t<k→eW K X Y k (i:Int)=some (if(X.drop i).all (fun r=>r.all vld)=true then .go () else .ret false)
 |0,i,k,hi,hk=>by
  obtain⟨k',rfl,_⟩:=bJ hk
  simp only [eW,dF (show¬(i:Int)<(X.length:Int) by omega),bR]
  rw [List.drop_eq_nil_of_le (by omega)];rfl
 |t+1,i,k,hi,hk=>by
  obtain⟨k',rfl,_⟩:=bJ hk
  have hi':i<X.length:=by omega
  have ih:=aFS h hr hY hX hn hK t (i+1) k' (by omega) (by omega)
  have d1:X.drop i=X[i]::X.drop (i+1):=List.drop_eq_getElem_cons hi'
  have r1:bO X (i:Int)=some X[i]:=rdG (List.getElem?_eq_getElem hi')
  have hm:=List.getElem_mem hi'
  have hl:=hr _ hm
  have g:=aFJ (h _ hm) (show X[i].length≤1000 by omega) (show X[i].length<K by omega)
  simp only [eW,dT (show(i:Int)<(X.length:Int) by omega),bX,r1,oB,hl,hY,nF (rfl:(n:Int)=(n:Int)),bR,g,uZ (i:=i) (by omega)]
  rw [d1,List.all_cons]
  cases X[i].all vld with
  |true=>simp only [Bool.not_true,bR,Bool.true_and];exact ih
  |false=>simp only [Bool.not_false,bX,Bool.false_and,Bool.false_eq_true,if_false]
theorem aKF {vld:aE→Bool} {X:List (List aE)} {Y:List aE} {n K:Nat} (h:∀r∈X,∀x∈r,bT K x=some (vld x)) (hy:∀x∈Y,bT K x=some (vld x)) (hr:∀r∈X,r.length=n) (hX:X.length=n) (hY:Y.length=n) (hn:n≤32) (hK:n<K):fC K X Y=some (Y.all vld&&X.all (fun r=>r.all vld)):=by
 have l8:=aFS h hr hY (by omega) (by omega) hK X.length 0 K (by omega) (by omega)
 have g:=aFJ hy (show Y.length≤1000 by omega) (show Y.length<K by omega)
 simp only [Int.natCast_zero,List.drop_zero] at l8
 simp only [fC,hX,hY,nF (rfl:(n:Int)=(n:Int)),bR,dF (show¬(32:Int)<(n:Int) by omega),g,oB]
 cases Y.all vld with
 |false=>simp only [Bool.not_false,bX,Bool.false_and]
 |true=>
  simp only [Bool.not_true,bR,l8,oB,Bool.true_and]
  cases X.all (fun r=>r.all vld) with
  |true=>simp only [if_true,lP]
  |false=>simp only [Bool.false_eq_true,if_false]
theorem aBY {X:List (List aE)} {Y:List aE} {z:List Rat} {K:Nat} (hu:aDO X=none∨aDV Y=none) (hv:gA K X Y=some false):dJ K X Y z=some false:=by
 have hr:lY K X Y (z.map Qr)=some false:=by
  simp only [lY,hv,oB,Bool.not_false,bX]
 unfold dJ
 split
 ·rename_i M q h1 h2
  rcases hu with h|h
  ·rw [h] at h1;cases h1
  ·rw [h] at h2;cases h2
 ·exact hr
theorem aBu {X:List (List aE)} {Y:List aE} {z:List Rat} {K:Nat} (hu:aDO X=none∨aDV Y=none) (hv:fC K X Y=some false):cW K X Y z=some false:=by
 have hr:lJ K X Y (z.map Qr)=some false:=by
  simp only [lJ,hv,oB,Bool.not_false,bX]
 unfold cW
 split
 ·rename_i M q h1 h2
  rcases hu with h|h
  ·rw [h] at h1;cases h1
  ·rw [h] at h2;cases h2
 ·exact hr
theorem w6 {M:List (List Rat)} {q z:List Rat} {K:Nat}:dJ K (M.map (List.map Qr)) (q.map Qr) z=dZ K M q z:=by
 unfold dJ
 rw [aIb,aHU]
theorem wG {M:List (List Rat)} {q z:List Rat} {K:Nat}:cW K (M.map (List.map Qr)) (q.map Qr) z=eH K M q z:=by
 unfold cW
 rw [aIb,aHU]
theorem aIx {α β:Type} {f:α→Nat→Option β} {v:α→β}:∀(l:List α),(∀x∈l,Ev (f x) (v x))→∃K0,∀K,K0≤K→∀x∈l,f x K=some (v x)
 |[],_=>⟨0,fun K _ x hx=>absurd hx List.not_mem_nil⟩
 |y::l,h=>by
  obtain⟨k1,h1⟩:=h y List.mem_cons_self
  obtain⟨k2,h2⟩:=aIx l fun x hx=>h x (List.mem_cons_of_mem _ hx)
  refine⟨k1+k2,fun K hK x hx=>?_⟩
  rcases List.mem_cons.1 hx with rfl|hx
  ·exact h1 K (by omega)
  ·exact h2 K (by omega) x hx
open Classical in
noncomputable def aB5 (x:aE):Bool:=decide (∃a:Rat,x=Qr a)
open Classical in
theorem aHJ (a:Rat):aB5 (Qr a)=true:=decide_eq_true ⟨a,rfl⟩
open Classical in
theorem aDu {x:aE} (h:∀a:Rat,x≠Qr a):aB5 x=false:=decide_eq_false fun⟨a,e⟩=>h a e
end Go.Proofs.YtolfcbpgmfbgmaaGreat
set_option linter.unusedVariables false
namespace Go.Proofs.YtolfcbpgmfbgmaaGreat
theorem aF9 {α:Type} {g:Nat→α} {n:Nat} {x:α} (h:x∈mp g n):∃i,i<n∧x=g i:=by
 obtain⟨i,hi,he⟩:=List.mem_map.1 h
 exact⟨i,List.mem_range.1 hi,he.symm⟩
def lnB (X:List (List Rat)) (n:Nat):Bool:=X.all fun r=>decide (r.length=n)
theorem aFx {X:List (List Rat)} {Y:List Rat} {B:Nat} (hX:∀r∈X,Bds B r∧r.length≤1000) (hB:B≤1073741824) (hl:X.length≤1000) {K:Nat} (hK:1001≤K):∀(t i k:Nat),i+t=X.length→t<k→dU K X Y k (i:Int)=some (if lnB (X.drop i) Y.length=true then .go () else .ret false)
 |0,i,k,hi,hk=>by
  obtain⟨k',rfl,_⟩:=bJ hk
  simp only [dU,dF (show¬(i:Int)<(X.length:Int) by omega),bR]
  rw [List.drop_eq_nil_of_le (by omega)];rfl
 |t+1,i,k,hi,hk=>by
  obtain⟨k',rfl,_⟩:=bJ hk
  have hi':i<X.length:=by omega
  have ih:=aFx (Y:=Y) hX hB hl hK t (i+1) k' (by omega) (by omega)
  have d1:X.drop i=X[i]::X.drop (i+1):=List.drop_eq_getElem_cons hi'
  have r1:bO X (i:Int)=some X[i]:=rdG (List.getElem?_eq_getElem hi')
  obtain⟨o1,o2⟩:=hX _ (List.getElem_mem hi')
  have g:=aBp o1 hB o2 (show X[i].length<K by omega)
  simp only [dU,dT (show(i:Int)<(X.length:Int) by omega),bX,r1,oB,g,Bool.not_true,bR,uZ (i:=i) (by omega)]
  rw [d1]
  unfold lnB at ih ⊢
  rw [List.all_cons]
  by_cases e:X[i].length=Y.length
  ·rw [decide_eq_true e,Bool.true_and,nF (by omega),bR];exact ih
  ·rw [decide_eq_false e,Bool.false_and,nT (by omega),bX];rfl
theorem aEX {X:List (List Rat)} {Y:List Rat} {B:Nat} (hX:∀r∈X,Bds B r∧r.length≤1000) (hB:B≤1073741824) (hl:X.length≤1000) {K:Nat} (hK:1001≤K):∀(t i k:Nat),i+t=X.length→t<k→dK K X Y k (i:Int)=some (if lnB (X.drop i) Y.length=true then .go () else .ret false)
 |0,i,k,hi,hk=>by
  obtain⟨k',rfl,_⟩:=bJ hk
  simp only [dK,dF (show¬(i:Int)<(X.length:Int) by omega),bR]
  rw [List.drop_eq_nil_of_le (by omega)];rfl
 |t+1,i,k,hi,hk=>by
  obtain⟨k',rfl,_⟩:=bJ hk
  have hi':i<X.length:=by omega
  have ih:=aEX (Y:=Y) hX hB hl hK t (i+1) k' (by omega) (by omega)
  have d1:X.drop i=X[i]::X.drop (i+1):=List.drop_eq_getElem_cons hi'
  have r1:bO X (i:Int)=some X[i]:=rdG (List.getElem?_eq_getElem hi')
  obtain⟨o1,o2⟩:=hX _ (List.getElem_mem hi')
  have g:=aAa o1 hB o2 (show X[i].length<K by omega)
  simp only [dK,dT (show(i:Int)<(X.length:Int) by omega),bX,r1,oB,g,Bool.not_true,bR,uZ (i:=i) (by omega)]
  rw [d1]
  unfold lnB at ih ⊢
  rw [List.all_cons]
  by_cases e:X[i].length=Y.length
  ·rw [decide_eq_true e,Bool.true_and,nF (by omega),bR];exact ih
  ·rw [decide_eq_false e,Bool.false_and,nT (by omega),bX];rfl
theorem aBQ {X:List (List Rat)} {Y:List Rat} {B:Nat} (hX:∀r∈X,Bds B r∧r.length≤1000) (hY:Bds B Y) (hB:B≤1073741824) (hl:X.length≤30) (hl2:Y.length≤30) (hbad:X.length≠Y.length∨∃r∈X,r.length≠Y.length) {K:Nat} (hK:1001≤K):dX K X Y=some false∧fO K X Y=some false:=by
 by_cases e:X.length=Y.length
 ·have hb:lnB X Y.length=false:=by
   rcases hbad with h|⟨r,h1,h2⟩
   ·exact absurd e h
   ·cases hc:lnB X Y.length with
    |false=>rfl
    |true=>exact absurd (of_decide_eq_true (List.all_eq_true.1 hc r h1)) h2
  have l1:=aFx (Y:=Y) hX hB (by omega) hK X.length 0 K (by omega) (by omega)
  have l2:=aEX (Y:=Y) hX hB (by omega) hK X.length 0 K (by omega) (by omega)
  have g1:=aBp hY hB (show Y.length≤1000 by omega) (show Y.length<K by omega)
  have g2:=aAa hY hB (show Y.length≤1000 by omega) (show Y.length<K by omega)
  rw [List.drop_zero,hb,if_neg (by decide),Int.natCast_zero] at l1 l2
  constructor
  ·simp only [dX,nF (show(X.length:Int)=(Y.length:Int) by omega),bR,dF (show¬(32:Int)<(X.length:Int) by omega),g1,oB,Bool.not_true,l1]
  ·simp only [fO,nF (show(X.length:Int)=(Y.length:Int) by omega),bR,dF (show¬(32:Int)<(Y.length:Int) by omega),g2,oB,Bool.not_true,l2]
 ·constructor
  ·simp only [dX,nT (show(X.length:Int)≠(Y.length:Int) by omega),bX]
  ·simp only [fO,nT (show(X.length:Int)≠(Y.length:Int) by omega),bX]
theorem aI3 {X:List (List aE)} {Y:List aE} {n:Nat} (hr:∀r∈X,r.length=n) (hX:X.length=n) (hY:Y.length=n) (hn:n≤32) (ok:∀x,x∈X.flatten++Y→(∃a,x=Qr a∧qs a=true)∨(Ev (fun K=>jG K x) false∧Ev (fun K=>bT K x) false∧∀a,x≠Qr a)) (hb:∃x,x∈X.flatten++Y∧∀a,x≠Qr a):(aDO X=none∨aDV Y=none)∧∃K0,∀K,K0≤K→gA K X Y=some false∧fC K X Y=some false:=by
 obtain⟨x,x1,x2⟩:=hb
 have hx:=List.mem_append.1 x1
 constructor
 ·rcases hx with h|h
  ·refine Or.inl (aKh fun l hl=>?_)
   obtain⟨r,r1,r2⟩:=List.mem_flatten.1 h
   rw [hl] at r1
   obtain⟨r0,_,rfl⟩:=List.mem_map.1 r1
   obtain⟨a,_,ha⟩:=List.mem_map.1 r2
   exact x2 a ha.symm
  ·refine Or.inr (aKq fun l hl=>?_)
   rw [hl] at h
   obtain⟨a,_,ha⟩:=List.mem_map.1 h
   exact x2 a ha.symm
 ·obtain⟨k1,h1⟩:=aIx (f:=fun x K=>jG K x) (v:=aB5) (X.flatten++Y) fun x hx=>by
   rcases ok x hx with⟨a,rfl,ha⟩|⟨e1,_,e3⟩
   ·rw [aHJ];exact aFQ ha
   ·rw [aDu e3];exact e1
  obtain⟨k2,h2⟩:=aIx (f:=fun x K=>bT K x) (v:=aB5) (X.flatten++Y) fun x hx=>by
   rcases ok x hx with⟨a,rfl,ha⟩|⟨_,e2,e3⟩
   ·rw [aHJ];exact aE1 ha
   ·rw [aDu e3];exact e2
  have hall:(Y.all aB5&&X.all (fun r=>r.all aB5))=false:=by
   have hf:=aDu x2
   cases hc:(Y.all aB5&&X.all (fun r=>r.all aB5)) with
   |false=>rfl
   |true=>
    rw [Bool.and_eq_true,List.all_eq_true,List.all_eq_true] at hc
    rcases hx with h|h
    ·obtain⟨r,r1,r2⟩:=List.mem_flatten.1 h
     have:=List.all_eq_true.1 (hc.2 r r1) x r2
     rw [hf] at this;cases this
    ·have:=hc.1 x h
     rw [hf] at this;cases this
  refine⟨k1+k2+n+1,fun K hK=>?_⟩
  have m1:∀r∈X,∀x∈r,x∈X.flatten++Y:=fun r hr x hx=>List.mem_append_left _ (List.mem_flatten.2 ⟨r,hr,hx⟩)
  have m2:∀x∈Y,x∈X.flatten++Y:=fun x hx=>List.mem_append_right _ hx
  rw [aKA (vld:=aB5) (fun r hr x hx=>h1 K (by omega) x (m1 r hr x hx)) (fun x hx=>h1 K (by omega) x (m2 x hx)) hr hX hY hn (by omega),aKF (vld:=aB5) (fun r hr x hx=>h2 K (by omega) x (m1 r hr x hx)) (fun x hx=>h2 K (by omega) x (m2 x hx)) hr hX hY hn (by omega),hall]
  exact⟨rfl,rfl⟩
def aP3 (K:Nat) (X:List (List aE)) (Y:List aE):Prop:=
 (∃(M:List (List Rat)) (q:List Rat),X=M.map (List.map Qr)∧Y=q.map Qr∧dX K M q=some false∧fO K M q=some false)∨
 ((aDO X=none∨aDV Y=none)∧gA K X Y=some false∧fC K X Y=some false)
noncomputable def rwX (M:Nat→Nat→Rat) (n:Nat):List (List aE):=(mx M n n).map (List.map Qr)
theorem uY {M:Nat→Nat→Rat} {n:Nat}:(rwX M n).length=n:=by unfold rwX;rw [List.length_map,rY]
theorem aD2 {M:Nat→Nat→Rat} {n:Nat} {r:List aE} (h:r∈rwX M n):r.length=n∧∀x∈r,∃i c,i<n∧c<n∧x=Qr (M i c):=by
 obtain⟨r0,h1,rfl⟩:=List.mem_map.1 h
 unfold mx at h1
 obtain⟨i,hi,rfl⟩:=aF9 h1
 refine⟨by rw [List.length_map,bB],fun x hx=>?_⟩
 obtain⟨a,ha,rfl⟩:=List.mem_map.1 hx
 obtain⟨c,hc,rfl⟩:=aF9 ha
 exact⟨i,c,hi,hc,rfl⟩
theorem aGQ {M:Nat→Nat→Rat} {n i:Nat} (hi:i<n):(rwX M n).getD i []=(mp (M i) n).map Qr:=by
 unfold rwX mx
 rw [List.getD_eq_getElem?_getD,List.getElem?_map,zY hi];rfl
theorem aFK {x:Rat} (h:dn 6 2 4000 x):qs x=true:=(xL h).qs (by decide)
theorem aJZ {X:List (List aE)} {n:Nat} (h:X.length=n):y5 X (mp id n)=X:=by rw [←h];exact aPq
theorem rdQ {l:List Rat} {i:Nat} (h:i<l.length):bO (l.map Qr) (i:Int)=some (Qr (at' l i)):=by
 refine rdG ?_
 rw [List.getElem?_map,List.getElem?_eq_getElem h]
 show some (Qr l[i])=some (Qr (at' l i))
 unfold at';rw [List.getD_eq_getElem?_getD,List.getElem?_eq_getElem h];rfl
theorem stQ {α:Type} {l:List α} {i:Nat} {v:α} (h:i<l.length):pA l (i:Int) v=some (l.set i v):=stG h
theorem slQ {α:Type} {l:List α} {i:Nat} (h:i≤l.length):slL l 0 (i:Int)=some (l.take i):=by
 unfold slL
 rw [if_pos ⟨by omega,by omega,by omega⟩]
 show some ((l.drop 0).take ((i:Int).toNat-0))=_
 rw [List.drop_zero];rfl
theorem aKD {M:Nat→Nat→Rat} {q:Nat→Rat} {n:Nat} {how b:Int} (hP:PB6 n M q) (hn:n≤6) (h1:I64 how) (h2:I64 b):∃X Y K0,(∀K,K0≤K→nH K (mx M n n) (mp q n) how b=some (X,Y))∧((∃M',PB6 n M' q∧X=(mx M' n n).map (List.map Qr)∧Y=(mp q n).map Qr)∨∀K,K0≤K→aP3 K X Y):=by
 have hMb:∀i c,i<n→c<n→Bd 12 (M i c):=fun i c hi hc=>xL (hP.1 i c hi hc)
 have hqb:∀i,i<n→Bd 12 (q i):=fun i hi=>xL (hP.2 i hi)
 have l43:∀K,n<K→cT K (rwX M n) K ([]:List Nat) ([]:List (List aE)) 0=some (mp id n,rwX M n):=fun K hK=>by
  have:=aLm (X:=rwX M n) (by rw [uY];omega) (fun r hr=>by rw [(aD2 hr).1];omega) K n 0 K (by rw [uY];omega) hK
  rw [uY] at this
  exact this
 have qlen:((mp q n).map Qr).length=n:=by rw [List.length_map,bB]
 have a1:sD ([]:List aE) ((mp q n).map Qr)=some ((mp q n).map Qr):=yP (by rw [qlen];simp;omega)
 have hX0:∀r∈mx M n n,Bds 12 r∧r.length=n:=fun r hr=>by
  unfold mx at hr
  obtain⟨i,hi,rfl⟩:=aF9 hr
  exact⟨wK fun c hc=>hMb i c hi hc,bB _ _⟩
 have hY0:Bds 12 (mp q n):=wK hqb
 by_cases h0:n=0
 ·subst h0
  refine⟨[[]],[],1001,fun K hK=>?_,Or.inr fun K hK=>Or.inl ⟨[[]],[],rfl,rfl,aBQ (B:=12) (fun r hr=>?_) (fun x hx=>absurd hx List.not_mem_nil) (by omega) (by simp) (by simp) (Or.inl (by simp)) hK⟩⟩
  ·show gL K (rwX M 0) _ _ _=_
   have e0:y5 (rwX M 0) (mp id 0)=[]:=rfl
   have e1:((mp id 0:List Nat).length:Int)=0:=rfl
   simp only [gL,l43 K (by omega),oB,iU,a1,e1,qT (rfl:(0:Int)=0),bX,e0]
   rfl
  ·rw [List.mem_singleton.1 hr];exact⟨fun x hx=>absurd hx List.not_mem_nil,by simp⟩
 obtain⟨i,i1,i2,i3⟩:=vJ (x:=b) h2 (m:=(n:Int)) (by omega)
 obtain⟨i,rfl⟩:∃k:Nat,i=k:=⟨i.toNat,by omega⟩
 obtain⟨b7,b71,b72⟩:=aNA h2 (show(2:Int)≤7 by omega)
 obtain⟨c,c1,c2,c3⟩:=vJ (x:=b7) b72 (m:=(n:Int)) (by omega)
 obtain⟨c,rfl⟩:∃k:Nat,c=k:=⟨c.toNat,by omega⟩
 obtain⟨w,w1,w2,w3⟩:=vJ (x:=how) h1 (m:=6) (by omega)
 have hi:i<n:=by omega
 have hc:c<n:=by omega
 have rowl:((mp (M i) n).map Qr).length=n:=by rw [List.length_map,bB]
 have zA:y5 (rwX M n) (mp id n)=rwX M n:=aJZ uY
 have hF:∀K,n<K→nH K (mx M n n) (mp q n) how b=bif(w==0) then((slL (rwX M n) 0 (i:Int)).bind fun x76=>some (x76,(mp q n).map Qr)) else(bif(w==1) then((bO (rwX M n) (i:Int)).bind fun v80=>(slL v80 0 (c:Int)).bind fun x82=>(bO (rwX M n) (i:Int)).bind fun v84=>(pA (rwX M n) (i:Int) x82).bind fun x86=>some (x86,(mp q n).map Qr)) else(bif(w==2) then((sD ((mp q n).map Qr) [(⟨(⟨false,([]:List Int)⟩:aB),(⟨false,([]:List Int)⟩:aB)⟩:aE)]).bind fun x90=>some (rwX M n,x90)) else(bif(w==3) then some ((rwX M n).set i (((mp (M i) n).map Qr).set c ⟨(Qr (M i c)).p,⟨true,(Qr (M i c)).q.d⟩⟩),(mp q n).map Qr) else(bif(w==4) then some (rwX M n,((mp q n).map Qr).set i ⟨⟨(Qr (q i)).p.neg,(Qr (q i)).p.d++[0]⟩,(Qr (q i)).q⟩) else((cE b 9).bind fun v137=>(aR (v137-4)).bind fun v139=>(mU K v139 1).bind fun v141=>some ((rwX M n).set i (((mp (M i) n).map Qr).set c v141),(mp q n).map Qr)))))):=fun K hK=>by
  have e0:bO (mp id n) (i:Int)=some i:=jP (f:=id) hi
  have e1:at' (mp (M i) n) c=M i c:=aOr hc
  have e2:at' (mp q n) i=q i:=aOr hi
  have r1:=rdQ (l:=mp (M i) n) (i:=c) (by rw [bB];exact hc)
  have r2:=rdQ (l:=mp q n) (i:=i) (by rw [bB];exact hi)
  rw [e1] at r1
  rw [e2] at r2
  have dl8:(Qr (q i)).p.d.length≤9000000000000:=(aNP (aFK (hP.2 i hi))).1
  have dl9:(Qr (q i)).p.d.length≤40000000:=by rw [Qp,Z_d];exact(rI (aFK (hP.2 i hi))).1
  have ad:sD ([]:List Int) (Qr (q i)).p.d=some (Qr (q i)).p.d:=yP (by simp;omega)
  have ad0:sD (Qr (q i)).p.d [0]=some ((Qr (q i)).p.d++[0]):=yP (by simp;omega)
  have sl:∀v,((rwX M n).set i v).length=n:=fun v=>by rw [List.length_set,uY]
  show gL K (rwX M n) _ _ _=_
  simp only [gL,l43 K hK,oB,iU,a1,bB,qF (show¬(n:Int)=0 by omega),bR,i1,b71,e0,aGQ hi,rowl,c1,w1,zA,r1,stQ (l:=(mp (M i) n).map Qr) (i:=c) (by rw [rowl];exact hc),aJZ (sl _),r2,ad,ad0,stQ (l:=(mp q n).map Qr) (i:=i) (by rw [qlen];exact hi)]
 have rdi:bO (rwX M n) (i:Int)=some ((mp (M i) n).map Qr):=by
  refine rdG ?_
  have:=aGQ (M:=M) hi
  rw [List.getD_eq_getElem?_getD] at this
  have hlt:i<(rwX M n).length:=by rw [uY];exact hi
  rw [List.getElem?_eq_getElem hlt] at this ⊢
  exact congrArg some this
 have okX:∀r∈rwX M n,∀x∈r,∃a,x=Qr a∧qs a=true:=fun r hr x hx=>by
  obtain⟨i,c,hi,hc,rfl⟩:=(aD2 hr).2 x hx
  exact⟨_,rfl,aFK (hP.1 i c hi hc)⟩
 have okY:∀x∈(mp q n).map Qr,∃a,x=Qr a∧qs a=true:=fun x hx=>by
  obtain⟨a,ha,rfl⟩:=List.mem_map.1 hx
  obtain⟨j,hj,rfl⟩:=aF9 ha
  exact⟨_,rfl,aFK (hP.2 j hj)⟩
 by_cases w0:w=0
 ·refine⟨(rwX M n).take i,(mp q n).map Qr,1001,fun K hK=>?_,Or.inr fun K hK=>Or.inl ⟨(mx M n n).take i,mp q n,?_,rfl,aBQ (B:=12) (fun r hr=>?_) hY0 (by omega) ?_ ?_ (Or.inl ?_) hK⟩⟩
  ·rw [hF K (by omega),qT w0,bX,slQ (by rw [uY];omega),oB]
  ·unfold rwX;rw [List.map_take]
  ·have:=hX0 r (List.mem_of_mem_take hr);exact⟨this.1,by omega⟩
  ·rw [List.length_take,rY];omega
  ·rw [bB];omega
  ·rw [List.length_take,rY,bB];omega
 by_cases w1':w=1
 ·refine⟨(rwX M n).set i (((mp (M i) n).map Qr).take c),(mp q n).map Qr,1001,fun K hK=>?_,Or.inr fun K hK=>Or.inl ⟨(mx M n n).set i ((mp (M i) n).take c),mp q n,?_,rfl,aBQ (B:=12) (fun r hr=>?_) hY0 (by omega) ?_ ?_ (Or.inr ⟨(mp (M i) n).take c,?_,?_⟩) hK⟩⟩
  ·rw [hF K (by omega),qF w0,bR,qT w1',bX,rdi,oB,slQ (by rw [rowl];omega),oB,oB,stQ (by rw [uY];exact hi),oB]
  ·unfold rwX;rw [List.map_set,List.map_take]
  ·rcases List.mem_or_eq_of_mem_set hr with h|h
   ·have:=hX0 r h;exact⟨this.1,by omega⟩
   ·rw [h];exact⟨fun x hx=>(wK fun c hc=>hMb i c hi hc) x (List.mem_of_mem_take hx),by rw [List.length_take,bB];omega⟩
  ·rw [List.length_set,rY];omega
  ·rw [bB];omega
  ·exact List.mem_set (by rw [rY];exact hi) _
  ·rw [List.length_take,bB,bB];omega
 by_cases w2':w=2
 ·refine⟨rwX M n,(mp q n++[0]).map Qr,1001,fun K hK=>?_,Or.inr fun K hK=>Or.inl ⟨mx M n n,mp q n++[0],rfl,rfl,aBQ (B:=12) (fun r hr=>?_) (hY0.snoc (Bd.zero.mono (by omega))) (by omega) ?_ ?_ (Or.inl ?_) hK⟩⟩
  ·rw [hF K (by omega),qF w0,bR,qF w1',bR,qT w2',bX,yP (by rw [qlen];simp;omega),oB,List.map_append,←Qr0];rfl
  ·have:=hX0 r hr;exact⟨this.1,by omega⟩
  ·rw [rY];omega
  ·rw [List.length_append,bB];simp;omega
  ·rw [rY,List.length_append,bB];simp
 by_cases w3':w=3
 ·have nf:∀a,(⟨(Qr (M i c)).p,⟨true,(Qr (M i c)).q.d⟩⟩:aE)≠Qr a:=fun a=>aLN
  have qa:=aFK (hP.1 i c hi hc)
  have v1:=aKK qa
  have v2:=aIk qa
  generalize hbad:(⟨(Qr (M i c)).p,⟨true,(Qr (M i c)).q.d⟩⟩:aE)=bad at *
  have hb:=aI3 (X:=(rwX M n).set i (((mp (M i) n).map Qr).set c bad)) (Y:=(mp q n).map Qr) (n:=n) (fun r hr=>by
    rcases List.mem_or_eq_of_mem_set hr with h|h
    ·exact(aD2 h).1
    ·rw [h,List.length_set,rowl]) (by rw [List.length_set,uY]) qlen (by omega) (fun x hx=>by
    rcases List.mem_append.1 hx with h|h
    ·obtain⟨r,r1,r2⟩:=List.mem_flatten.1 h
     rcases List.mem_or_eq_of_mem_set r1 with h|h
     ·exact Or.inl (okX r h x r2)
     ·rw [h] at r2
      rcases List.mem_or_eq_of_mem_set r2 with h|h
      ·refine Or.inl (okX _ ?_ x h)
       have:=aGQ (M:=M) hi
       rw [←this,List.getD_eq_getElem?_getD,List.getElem?_eq_getElem (by rw [uY];exact hi)]
       exact List.getElem_mem _
      ·rw [h];exact Or.inr ⟨v1,v2,nf⟩
    ·exact Or.inl (okY x h)) ⟨bad,List.mem_append_left _ (List.mem_flatten.2 ⟨_,List.mem_set (by rw [uY];exact hi) _,List.mem_set (by rw [rowl];exact hc) _⟩),nf⟩
  obtain⟨u,K0,hv⟩:=hb
  refine⟨(rwX M n).set i (((mp (M i) n).map Qr).set c bad),(mp q n).map Qr,K0+1001,fun K hK=>?_,Or.inr fun K hK=>Or.inr ⟨u,hv K (by omega)⟩⟩
  rw [hF K (by omega),qF w0,bR,qF w1',bR,qF w2',bR,qT w3',bX]
 by_cases w4':w=4
 ·have nf:∀a,(⟨⟨(Qr (q i)).p.neg,(Qr (q i)).p.d++[0]⟩,(Qr (q i)).q⟩:aE)≠Qr a:=fun a=>aKz
  have qa:=aFK (hP.2 i hi)
  have v1:=aIg qa
  have v2:=aHO qa
  generalize hbad:(⟨⟨(Qr (q i)).p.neg,(Qr (q i)).p.d++[0]⟩,(Qr (q i)).q⟩:aE)=bad at *
  have hb:=aI3 (X:=rwX M n) (Y:=((mp q n).map Qr).set i bad) (n:=n) (fun r hr=>(aD2 hr).1) uY (by rw [List.length_set,qlen]) (by omega) (fun x hx=>by
    rcases List.mem_append.1 hx with h|h
    ·obtain⟨r,r1,r2⟩:=List.mem_flatten.1 h
     exact Or.inl (okX r r1 x r2)
    ·rcases List.mem_or_eq_of_mem_set h with h|h
     ·exact Or.inl (okY x h)
     ·rw [h];exact Or.inr ⟨v1,v2,nf⟩) ⟨bad,List.mem_append_right _ (List.mem_set (by rw [qlen];exact hi) _),nf⟩
  obtain⟨u,K0,hv⟩:=hb
  refine⟨rwX M n,((mp q n).map Qr).set i bad,K0+1001,fun K hK=>?_,Or.inr fun K hK=>Or.inr ⟨u,hv K (by omega)⟩⟩
  rw [hF K (by omega),qF w0,bR,qF w1',bR,qF w2',bR,qF w3',bR,qT w4',bX]
 ·obtain⟨v,y1,y2,y3⟩:=vJ (x:=b) h2 (m:=9) (by omega)
  obtain⟨r,r1,r2⟩:=aBd (p:=v-4) (q:=1) (m:=4) (by omega) (by omega) (by omega) (by omega)
  obtain⟨_,_,r3⟩:=aK6 r1
  obtain⟨K0,hK0⟩:=aJv (p:=v-4) (q:=1) (by omega) (by omega)
  refine⟨(rwX M n).set i (((mp (M i) n).map Qr).set c (Qr r)),(mp q n).map Qr,K0+1001,fun K hK=>?_,Or.inl ⟨fun a=>if a=i then nP (M i) c r else M a,⟨fun a d ha hd=>?_,hP.2⟩,?_,rfl⟩⟩
  ·have hz:=hK0 K (by omega)
   rw [hF K (by omega),qF w0,bR,qF w1',bR,qF w2',bR,qF w3',bR,qF w4',bR,y1,oB,oZ (by omega),oB]
   have:mU K (v-4) 1=some (Qr r):=by rw [r3];exact hz
   rw [this,oB]
  ·by_cases e:a=i
   ·simp only [e,if_true]
    by_cases e2:d=c
    ·rw [e2,bG];exact aGw r2 (by omega)
    ·rw [cP e2];exact hP.1 i d hi hd
   ·simp only [e,if_false];exact hP.1 a d ha hd
  ·have e1:((mp (M i) n).map Qr).set c (Qr r)=(mp (nP (M i) c r) n).map Qr:=by rw [←List.map_set,aIi]
   have e2:mx (fun a=>if a=i then nP (M i) c r else M a) n n=(mx M n n).set i (mp (nP (M i) c r) n):=by
    show mp (fun a=>mp ((fun a=>if a=i then nP (M i) c r else M a) a) n) n=(mp (fun a=>mp (M a) n) n).set i (mp (nP (M i) c r) n)
    rw [aIi]
    refine iV fun a _=>?_
    by_cases e:a=i
    ·rw [e,bG];simp only [if_true]
    ·rw [cP e];simp only [e,if_false]
   rw [e1,e2,List.map_set];rfl
end Go.Proofs.YtolfcbpgmfbgmaaGreat
set_option linter.unusedVariables false
namespace Go.Proofs.YtolfcbpgmfbgmaaGreat
theorem aKI {X:List (List aE)} {Y:List aE} {K:Nat} (h:aP3 K X Y) (z:List Rat):dJ K X Y z=some false∧cW K X Y z=some false:=by
 rcases h with⟨M,q,rfl,rfl,h1,h2⟩|⟨h0,h1,h2⟩
 ·rw [w6,wG]
  constructor
  ·simp only [dZ,h1,oB,Bool.not_false,bX]
  ·simp only [eH,h2,oB,Bool.not_false,bX]
 ·exact⟨aBY h0 h1,aBu h0 h2⟩
theorem aMe {M:Nat→Nat→Rat} {q z:Nat→Rat} {n B B' m:Nat} (hM:z6 n n B M) (hq:∀i,i<n→Bd B (q i)) (hz:∀i,i<n→Bd B' (z i)) (hm:1+n*(B+B'+1)+B+1≤m):∀i,i<n→Bd m (wvl M q z n i):=fun i hi=>
 ((aJT (f:=M i) (e:=z) (w:=n) (fun c hc=>hM i c hi hc) hz n (Nat.le_refl n)).add (hq i hi)).mono (by omega)
theorem aOb {M:Nat→Nat→Rat} {q z:Nat→Rat} {n B:Nat} (hM:z6 n n B M) (hq:∀i,i<n→Bd B (q i)) (hz:∀i,i<n→Bd B (z i)) (hn:n≤8) (hB:B≤1000000) {K:Nat} (hK:100≤K):∀(t i k:Nat),i+t=n→t<k→kG K (mx M n n) (mp q n) (mp z n) k (mp (wvl M q z n) i) (i:Int)=some (mp (wvl M q z n) n)
 |0,i,k,hi,hk=>by
  obtain⟨k',rfl,_⟩:=bJ hk
  have:i=n:=by omega
  subst this
  simp only [kG,bB,dF (show¬(i:Int)<(i:Int) by omega),bR]
 |t+1,i,k,hi,hk=>by
  obtain⟨k',rfl,_⟩:=bJ hk
  obtain⟨d1,d2⟩:=aMG (f:=M i) (e:=z) (w:=n) (fun c hc=>hM i c (by omega) hc) hz hB (by omega) (show n<K by omega)
  have hnB:n*(B+B+1)≤8*2000001:=Nat.mul_le_mul hn (by omega)
  have e1:q i+sm (fun c=>M i c*z c) n=wvl M q z n i:=by unfold wvl;rw [Rat.add_comm]
  simp only [kG,bB,dT (show(i:Int)<(n:Int) by omega),bX,aAS (g:=M) (w:=n) (show i<n by omega),oB,d2,jP (f:=q) (show i<n by omega),aAR (hq i (by omega)) d1 (by omega) (by omega),e1,apM (g:=wvl M q z n) (show i≤1000000 by omega),uZ (i:=i) (by omega)]
  exact aOb hM hq hz hn hB hK t (i+1) k' (by omega) (by omega)
theorem W_ok {M:Nat→Nat→Rat} {q z:Nat→Rat} {n B:Nat} (hM:z6 n n B M) (hq:∀i,i<n→Bd B (q i)) (hz:∀i,i<n→Bd B (z i)) (hn:n≤8) (hB:B≤1000000) {K:Nat} (hK:100≤K):tB K (mx M n n) (mp q n) (mp z n)=some (mp (wvl M q z n) n):=by
 have h:=aOb hM hq hz hn hB hK n 0 K (by omega) (by omega)
 simp only [Int.natCast_zero,zI] at h
 simp only [tB,h,oB,rL]
def aCI (M:Nat→Nat→Rat) (q:Nat→Rat) (n:Nat) (N:Int):aN×Int:=if N<0 then(⟨[],[],0⟩,1) else z4 M q n N.toNat
theorem aNH {M:Nat→Nat→Rat} {q:Nat→Rat} {n:Nat} (hP:PB6 n M q) (hn:n≤6) {N:Int} (h1:-1≤N) (h2:N≤800) {K:Nat} (hK:6000≤K):gF K (mx M n n) (mp q n) N=some (aCI M q n N)∧jE K (mx M n n) (mp q n) N=some (aCI M q n N):=by
 have hM:z6 n n 200 M:=fun i c hi hc=>(xL (hP.1 i c hi hc)).mono (by omega)
 have hq:∀i,i<n→Bd 200 (q i):=fun i hi=>(xL (hP.2 i hi)).mono (by omega)
 unfold aCI
 by_cases hN:N<0
 ·rw [if_pos hN]
  constructor
  ·simp only [gF,aAs hM hq (by omega) (show n≤32 by omega) (show 100≤K by omega),oB,Bool.not_true,bR,dT hN,bX]
  ·simp only [jE,yV hM hq (by omega) (show n≤32 by omega) (show 100≤K by omega),oB,Bool.not_true,bR,dT hN,bX]
 ·rw [if_neg hN]
  obtain⟨m,rfl⟩:∃m:Nat,N=m:=⟨N.toNat,by omega⟩
  exact aKu (most:=m) hM hq (aJC hP hn) (by omega) (by omega) (by omega) (by omega) (by omega)
theorem aM4 {M:Nat→Nat→Rat} {q:Nat→Rat} {n:Nat} (hP:PB6 n M q) (hn:n≤6) (N:Int):((aCI M q n N).2≠0∧(aCI M q n N).1=⟨[],[],0⟩)∨((aCI M q n N).2=0∧∃z w,(aCI M q n N).1.z=mp z n∧(aCI M q n N).1.w=mp w n∧Sol M q n z w∧(∀i,i<n→Bd 200 (z i))∧(∀i,i<n→Bd 3000 (w i))):=by
 have hM:z6 n n 200 M:=fun i c hi hc=>(xL (hP.1 i c hi hc)).mono (by omega)
 have hq:∀i,i<n→Bd 200 (q i):=fun i hi=>(xL (hP.2 i hi)).mono (by omega)
 unfold aCI
 by_cases hN:N<0
 ·rw [if_pos hN];exact Or.inl ⟨by decide,rfl⟩
 ·rw [if_neg hN]
  by_cases h0:(z4 M q n N.toNat).2=0
  ·right
   refine⟨h0,?_⟩
   obtain⟨z,w,e1,e2,hs⟩:=aMo h0
   obtain⟨z1,z2⟩:=aPD (aJC hP hn) (by omega) h0
   have zb:∀i,i<n→Bd 200 (z i):=fun i hi=>by
    have h:=z2 (z i) (by rw [e1];exact List.mem_map.2 ⟨i,List.mem_range.2 hi,rfl⟩)
    exact h
   have h6:n*(200+200+1)≤6*401:=Nat.mul_le_mul hn (by omega)
   have wb:=aMe (m:=3000) hM hq zb (by omega)
   exact⟨z,w,e1,e2,hs,zb,fun i hi=>by rw [hs.eq i hi];exact wb i hi⟩
  ·exact Or.inl ⟨h0,(aKv h0).1⟩
end Go.Proofs.YtolfcbpgmfbgmaaGreat
set_option linter.unusedVariables false
namespace Go.Proofs.YtolfcbpgmfbgmaaGreat
theorem aPi {x:Rat} (h:0≤x):(x.num.sign != 0)=decide (0<x.num.sign):=by
 by_cases h2:0<x
 ·have:=aPA.2 h2
  rw [decide_eq_true this,nT (by omega)]
 ·have h0:x=0:=Rat.le_antisymm (Rat.not_lt.1 h2) h
  have h1:x.num.sign=0:=aPU.2 h0
  rw [decide_eq_false (by omega),nF h1]
theorem aHh {z w:Nat→Rat} {n B B':Nat} (hz:∀i,i<n→Bd B (z i)) (hz0:∀i,i<n→0≤z i) (hw:∀i,i<n→Bd B' (w i)) (hB:B≤1073741824) (hB':B'≤1073741824) (hn:n≤1000) (K:Nat):∀(t i k:Nat),i+t=n→t<k→fJ K (mp z n) (mp w n) k (i:Int)=some (bif aEi z w t i then .go () else .ret false)
 |0,i,k,hi,hk=>by
  obtain⟨k',rfl,_⟩:=bJ hk
  simp only [fJ,bB,dF (show¬(i:Int)<(n:Int) by omega),bR,aEi,bX]
 |t+1,i,k,hi,hk=>by
  obtain⟨k',rfl,_⟩:=bJ hk
  have ih:=aHh hz hz0 hw hB hB' hn K t (i+1) k' (by omega) (by omega)
  simp only [fJ,bB,dT (show(i:Int)<(n:Int) by omega),bX,jP (f:=z) (show i<n by omega),jP (f:=w) (show i<n by omega),oB,wS (hz i (by omega)) hB,wS (hw i (by omega)) hB',uZ (i:=i) (by omega),aPi (hz0 i (by omega)),aEi]
  cases decide (0<(z i).num.sign) with
  |true=>
   simp only [bX]
   cases((w i).num.sign != 0) with
   |true=>simp only [bX,bR]
   |false=>simp only [bR];exact ih
  |false=>simp only [bR];exact ih
theorem aHl {M:Nat→Nat→Rat} {q z:Nat→Rat} {n B:Nat} (hM:z6 n n B M) (hq:∀i,i<n→Bd B (q i)) (hz:∀i,i<n→Bd B (z i)) (hn:n≤8) (hB:B≤1000000) {K:Nat} (hK:100≤K):eH K (mx M n n) (mp q n) (mp z n)=some (ckb M q z n):=by
 have v:=yV hM hq (by omega) (by omega) hK
 have g:=aAa (wK hz) (by omega) (show(mp z n).length≤1000 by rw [bB];omega) (show(mp z n).length<K by rw [bB];omega)
 have ngz:=(aEo hz (by omega) (show n≤1000 by omega) (show n<K by omega)).2
 have h8:n*(B+B+1)≤8*2000001:=Nat.mul_le_mul hn (by omega)
 have hw:=aMe (m:=100000000) hM hq hz (by omega)
 have ngw:=(aEo hw (by omega) (show n≤1000 by omega) (show n<K by omega)).2
 have hW:=W_ok hM hq hz hn hB hK
 simp only [eH,v,oB,Bool.not_true,bR,bB,nF (rfl:(n:Int)=(n:Int)),g,ngz,ckb]
 cases hc:ng z n 0 with
 |true=>simp only [bX]
 |false=>
  have z0:∀i,i<n→0≤z i:=fun i hi=>aIK n 0 hc i (Nat.zero_le _) (by omega)
  have l15:=aHh hz z0 hw (by omega) (by omega) (show n≤1000 by omega) K n 0 K (by omega) (by omega)
  rw [Int.natCast_zero] at l15
  simp only [bR,hW,oB,l15]
  cases aEi z (wvl M q z n) n 0 with
  |true=>simp only [bX,n5,ngw,oB]
  |false=>simp only [bR]
theorem aPg {l:List Rat} {B:Nat} (h:Bds B l):∀i,i<l.length→Bd B (at' l i):=fun i hi=>h _ (aGd hi)
theorem aFt {M:Nat→Nat→Rat} {q:Nat→Rat} {n:Nat} {z:List Rat} (hP:PB6 n M q) (hn:n≤6) (hz:Bds 300 z) {K:Nat} (hK:100≤K):∃b,dZ K (mx M n n) (mp q n) z=some b∧eH K (mx M n n) (mp q n) z=some b:=by
 have hM:z6 n n 300 M:=fun i c hi hc=>(xL (hP.1 i c hi hc)).mono (by omega)
 have hq:∀i,i<n→Bd 300 (q i):=fun i hi=>(xL (hP.2 i hi)).mono (by omega)
 by_cases e:z.length=n
 ·have hz':∀i,i<n→Bd 300 (at' z i):=fun i hi=>aPg hz i (by omega)
  have e2:z=mp (at' z) n:=by rw [←e];exact aPH z
  rw [e2]
  exact⟨_,aIR hM hq hz' (by omega) (by omega) hK,aHl hM hq hz' (by omega) (by omega) hK⟩
 ·refine⟨false,?_,?_⟩
  ·simp only [dZ,aAs hM hq (by omega) (show n≤32 by omega) hK,oB,Bool.not_true,bR,bB,nT (show(z.length:Int)≠(n:Int) by omega),bX]
  ·simp only [eH,yV hM hq (by omega) (show n≤32 by omega) hK,oB,Bool.not_true,bR,bB,nT (show(z.length:Int)≠(n:Int) by omega),bX]
theorem aMX {l:List Int} (hl:xP l) {m:Nat}:∃r,mN l (m:Int)=some r∧xP r∧r.length≤m∨60000000000<m:=by
 by_cases hm:60000000000<m
 ·exact⟨[],Or.inr hm⟩
 ·refine⟨l.take (min l.length m),Or.inl ⟨?_,fun x hx=>hl x (List.mem_of_mem_take hx),by rw [List.length_take];omega⟩⟩
  have e1:min (l.length:Int) (m:Int)=((min l.length m:Nat):Int):=by omega
  have e2:(l.take (min l.length m)).length=min l.length m:=by rw [List.length_take];omega
  simp only [mN,e1,slQ (show min l.length m≤l.length by omega),oB,yP (show([]:List Int).length+(l.take (min l.length m)).length≤68719476736 by rw [e2];show 0+_≤_;omega),List.nil_append]
theorem aLI {l:List Int} (hl:xP l) (hn:l.length≤1000) (K:Nat):∀(t i k:Nat) (o:List Rat),i+t=l.length→t<k→o.length=i→Bds 64 o→∃r,jZ K l k o (i:Int)=some r∧Bds 64 r∧r.length=l.length
 |0,i,k,o,hi,hk,ho,hb=>by
  obtain⟨k',rfl,_⟩:=bJ hk
  exact⟨o,by simp only [jZ,dF (show¬(i:Int)<(l.length:Int) by omega),bR],hb,by omega⟩
 |t+1,i,k,o,hi,hk,ho,hb=>by
  obtain⟨k',rfl,_⟩:=bJ hk
  have hi':i<l.length:=by omega
  have r1:bO l (i:Int)=some l[i]:=rdG (List.getElem?_eq_getElem hi')
  have hx:=hl _ (List.getElem_mem hi')
  have q1:qof l[i] 1=some ((l[i]:Rat)/(1:Int)):=aE7 hx (by omega)
  have b1:Bd 64 ((l[i]:Rat)/(1:Int)):=Bd.of (by omega) (by omega) (by decide)
  obtain⟨r,e1,e2,e3⟩:=aLI hl hn K t (i+1) k' (o++[(l[i]:Rat)/(1:Int)]) (by omega) (by omega) (by simp;omega) (hb.snoc b1)
  exact⟨r,by simp only [jZ,dT (show(i:Int)<(l.length:Int) by omega),bX,r1,oB,q1,apS (xs:=o) (x:=(l[i]:Rat)/(1:Int)) (by omega),uZ (i:=i) (by omega),e1],e2,e3⟩
theorem aQN {l:List Int} (hl:xP l) (hn:l.length≤1000) {K:Nat} (hK:l.length<K):∃r,cD K l=some r∧Bds 64 r∧r.length=l.length:=by
 obtain⟨r,e1,e2,e3⟩:=aLI hl hn K l.length 0 K [] (by omega) hK rfl (fun x hx=>absurd hx List.not_mem_nil)
 rw [Int.natCast_zero] at e1
 exact⟨r,by simp only [cD,e1,oB,qS],e2,e3⟩
theorem Bds.mono' {m k:Nat} {l:List Rat} (h:Bds m l) (hk:m≤k):Bds k l:=fun x hx=>(h x hx).mono hk
theorem aH4 {v1:(List (List Rat))×(List Rat)} {v3:(List (List aE))×(List aE)} {v5:aN×Int} {x19 v30 x32:List Rat} {K:Nat} (h:∀z,z∈[v5.1.z,x19,v30,x32,[]]→(∃b,dZ K v1.1 v1.2 z=some b∧eH K v1.1 v1.2 z=some b)∧∃b,dJ K v3.1 v3.2 z=some b∧cW K v3.1 v3.2 z=some b):∀(t i k:Nat),i+t=5→t<k→bZ K v1 v3 v5 x19 v30 x32 k (i:Int)=some (.go ())
 |0,i,k,hi,hk=>by
  obtain⟨k',rfl,_⟩:=bJ hk
  have hl:[v5.1.z,x19,v30,x32,[]].length=5:=rfl
  simp only [bZ,hl,dF (show¬(i:Int)<((5:Nat):Int) by omega),bR]
 |t+1,i,k,hi,hk=>by
  obtain⟨k',rfl,_⟩:=bJ hk
  have hl:[v5.1.z,x19,v30,x32,[]].length=5:=rfl
  obtain⟨z,z1,_,z3⟩:=rdM (xs:=[v5.1.z,x19,v30,x32,[]]) (i:=i) (by rw [hl];omega)
  obtain⟨⟨b,b1,b2⟩,b',b3,b4⟩:=h z z1
  simp only [bZ,hl,dT (show(i:Int)<((5:Nat):Int) by omega),bX,z3,oB,b1,b2,b3,b4,bne_self_eq_false,bR,uZ (i:=i) (by omega)]
  exact aH4 h t (i+1) k' (by omega) (by omega)
theorem aA7 {a0:List Int} {a1 a2:Int} {a3:List Int} (h0:xP a0) (h1:I64 a1) (h2:I64 a2) (h3:xP a3):∃K,kE K a0 a1 a2 a3=some true:=by
 obtain⟨n,M,q,hn,hP,hF⟩:=aIA h0 (most:=5) (by omega) (by omega)
 obtain⟨X,Y,K0,hS,hXY⟩:=aKD hP (by omega) h1 h2
 refine⟨K0+6000,?_⟩
 have hF':=hF (K0+6000) (by omega)
 have s5:((5:Nat):Int)=5:=rfl
 rw [s5] at hF'
 have hb:=(aNH hP (by omega) (show(-1:Int)≤800 by omega) (by omega) (show 6000≤K0+6000 by omega)).2
 have hL:=aIp (K:=K0+6000) (by omega)
 obtain⟨tkn,tkn1⟩:=aMX h3 (m:=6)
 obtain⟨t1,t2,t3⟩:mN a3 6=some tkn∧xP tkn∧tkn.length≤6:=by
  rcases tkn1 with h|h
  ·exact h
  ·omega
 obtain⟨o,o1,o2,o3⟩:=aQN t2 (by omega) (show tkn.length<K0+6000 by omega)
 have hz:Bds 200 (aCI M q n 800).1.z∧(aCI M q n 800).1.z.length≤6:=by
  rcases aM4 hP (by omega) 800 with⟨_,h⟩|⟨_,z,w,e1,_,_,zb,_⟩
  ·rw [h];exact⟨fun x hx=>absurd hx List.not_mem_nil,by show 0≤6;omega⟩
  ·rw [e1];exact⟨wK zb,by rw [bB];omega⟩
 have mk:y4 (n:Int) (0:Rat)=some (mp (fun _=>0) n):=aHH (n:=n) (z:=(0:Rat)) (by omega)
 have tail:∀x19,Bds 300 x19→dE (K0+6000) a3 (mx M n n,mp q n) (X,Y) (aCI M q n 800) x19=some true:=fun x19 hx=>by
  have l36:=aH4 (K:=K0+6000) (v1:=(mx M n n,mp q n)) (v3:=(X,Y)) (v5:=aCI M q n 800) (x19:=x19) (v30:=o) (x32:=mp (fun _=>0) n) (fun z hzm=>by
   have zb:Bds 300 z:=by
    simp only [List.mem_cons,List.not_mem_nil,or_false] at hzm
    rcases hzm with rfl|rfl|rfl|rfl|rfl
    ·exact hz.1.mono' (by omega)
    ·exact hx
    ·exact o2.mono' (by omega)
    ·exact wK fun _ _=>Bd.zero.mono (by omega)
    ·exact fun x hx=>absurd hx List.not_mem_nil
   refine⟨aFt hP (by omega) zb (by omega),?_⟩
   rcases hXY with⟨M',hP',rfl,rfl⟩|hbad
   ·show∃b,dJ _ ((mx M' n n).map (List.map Qr)) ((mp q n).map Qr) z=some b∧cW _ ((mx M' n n).map (List.map Qr)) ((mp q n).map Qr) z=some b
    rw [w6,wG]
    exact aFt hP' (by omega) zb (by omega)
   ·exact⟨false,aKI (hbad (K0+6000) (by omega)) z⟩) 5 0 (K0+6000) (by omega) (by omega)
  rw [Int.natCast_zero] at l36
  simp only [dE,t1,oB,o1,bB,mk,l36,iO,hL]
 generalize hR:aCI M q n 800=R at *
 have ap:sD ([]:List Rat) R.1.z=some R.1.z:=yP (by show 0+_≤_;omega)
 simp only [kE,hF',oB,hS _ (show K0≤K0+6000 by omega),hb,ap]
 by_cases hl:0<R.1.z.length
 ·obtain⟨i,i1,i2,i3⟩:=vJ (x:=a2) h2 (m:=(R.1.z.length:Int)) (by omega)
  obtain⟨i,rfl⟩:∃k:Nat,i=k:=⟨i.toNat,by omega⟩
  obtain⟨v,v1,v2,v3⟩:=vJ (x:=a1) h1 (m:=5) (by omega)
  obtain⟨r,r1,r2⟩:=aBd (p:=v-2) (q:=2) (m:=4) (by omega) (by omega) (by omega) (by omega)
  have rb:Bd 12 r:=xL (aGw r2 (by omega))
  have zi:=hz.1 _ (aGd (l:=R.1.z) (i:=i) (by omega))
  have hx:Bds 300 (R.1.z.set i (at' R.1.z i+r)):=fun x hx=>by
   rcases List.mem_or_eq_of_mem_set hx with h|h
   ·exact(hz.1 x h).mono (by omega)
   ·rw [h];exact(zi.add rb).mono (by omega)
  simp only [dT (show(0:Int)<(R.1.z.length:Int) by omega),bX,i1,oB,aPT (l:=R.1.z) (i:=i) (by omega),v1,oZ (show -9223372036854775808≤v-2∧v-2≤9223372036854775807 by omega),r1,aAR zi rb (by omega) (by omega),stG (xs:=R.1.z) (i:=i) (v:=at' R.1.z i+r) (by omega)]
  exact tail _ hx
 ·simp only [dF (show¬(0:Int)<(R.1.z.length:Int) by omega),bR]
  exact tail _ (hz.1.mono' (by omega))
end Go.Proofs.YtolfcbpgmfbgmaaGreat
