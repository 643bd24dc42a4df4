/- Texts of the proof, part 6: LV MS MN MP MU YC YD LD LS XL XF XA XU XV XW XX XY YE YF YG YH YI YJ YK YL YM XZ YN YO YP YQ YS WM YV WA WB WC WG WK WL MD WN WO. -/
import Derived.Test.YtolfcbpgmfbgmaaGreatZ5
set_option linter.unusedSimpArgs false
set_option linter.unusedVariables false
namespace Go.Proofs.YtolfcbpgmfbgmaaGreat
/-- A matrix with a column more. -/
def wid (g:Nat→Nat→Rat) (f:Nat→Rat) (w i c:Nat):Rat:=if c<w then g i c else f i
theorem aOa {g:Nat→Nat→Rat} {f:Nat→Rat} {w i:Nat}:mp (g i) w++[f i]=mp (wid g f w i) (w+1):=by
 rw [aBW]
 have e:wid g f w i w=f i:=if_neg (Nat.lt_irrefl w)
 rw [e,gS (f:=wid g f w i) (g:=g i) fun c hc=>if_pos hc]
theorem aMu {g:Nat→Nat→Rat} {f:Nat→Rat} {h w b:Nat} (hg:vU h w b g) (hf:∀i,i<h→Bd b (f i)):vU h (w+1) b (wid g f w):=fun i c hi hc=>by
 unfold wid
 split
 ·exact hg i c hi ‹_›
 ·exact hf i hi
theorem aFU {g:Nat→Nat→Rat} {f:Nat→Rat} {h w:Nat} (hh:h≤64) (hw:w≤64) (K:Nat):∀(t i k:Nat),i+t=h→t<k→kT K (mx g h w) (mp f h) k (mx (wid g f w) i (w+1)) (i:Int)=some (mx (wid g f w) h (w+1))
 |0,i,k,hi,hk=>by
  obtain⟨k',rfl,_⟩:=bB hk
  have:i=h:=by omega
  subst this
  simp only [kT,nG,dF (show¬(i:Int)<(i:Int) by omega),bU]
 |t+1,i,k,hi,hk=>by
  obtain⟨k',rfl,_⟩:=bB hk
  have e2:rM ([]:List Rat) (mp (g i) w)=some (mp (g i) w):=by rw [aDv (by rw [aZ,List.length_nil];omega),List.nil_append]
  have e3:rM (mp (g i) w) [f i]=some (mp (wid g f w i) (w+1)):=by rw [apS (by rw [aZ];omega),aOa]
  have e4:rM (mx (wid g f w) i (w+1)) [mp (wid g f w i) (w+1)]=some (mx (wid g f w) (i+1) (w+1)):=apM (g:=fun i=>mp (wid g f w i) (w+1)) (by omega)
  simp only [kT,nG,dT (show(i:Int)<(h:Int) by omega),bY,xN (g:=g) (w:=w) (show i<h by omega),oB,g8,e2,dW (f:=f) (show i<h by omega),e3,e4,sW (i:=i) (by omega)]
  exact aFU hh hw K t (i+1) k' (by omega) (by omega)
def aAX (g:Nat→Nat→Rat) (w:Nat):Nat→Nat→Bool
 |0,_=>false
 |t+1,i=>if g i w=0 then aAX g w t (i+1) else true
theorem aF4 {g:Nat→Nat→Rat} {h w b n:Nat} (hg:vU h (w+1) b g) (hb:b≤1073741824) (hh:h≤1000) (hn:n≤h) (K:Nat):∀(t i k:Nat),n+i+t=h→t<k→kQ K (w:Int) (mp (fun j=>mp (g (n+j)) (w+1)) (h-n)) k (i:Int)=some (if aAX g w t (n+i)=true then .ret ([],6) else .go ())
 |0,i,k,hi,hk=>by
  obtain⟨k',rfl,_⟩:=bB hk
  simp only [kQ,aZ,dF (show¬(i:Int)<((h-n:Nat):Int) by omega),bU,aAX]
  rfl
 |t+1,i,k,hi,hk=>by
  obtain⟨k',rfl,_⟩:=bB hk
  have hx:=hg (n+i) w (by omega) (by omega)
  simp only [kQ,aZ,dT (show(i:Int)<((h-n:Nat):Int) by omega),bY,dW (f:=fun j=>mp (g (n+j)) (w+1)) (show i<h-n by omega),oB,dW (f:=g (n+i)) (show w<w+1 by omega),uJ hx hb,aAX]
  by_cases hz:g (n+i) w=0
  ·simp only [nF (aD3.2 hz),bU,if_pos hz,sW (i:=i) (by omega),oB]
   exact aF4 hg hb hh hn K t (i+1) k' (by omega) (by omega)
  ·simp only [nT (fun h=>hz (aD3.1 h)),bY,if_neg hz,if_true]
def aCL (s:RS) (w:Nat):Nat→Nat→Rat
 |0=>fun _=>0
 |m+1=>kX (aCL s w m) (pat s.ps m) (s.g m w)
theorem aKp {s:RS} {h w b:Nat} (hb:vU h (w+1) b s.g) (h1:1≤b) (hp:s.ps.length≤h):∀m,m≤s.ps.length→∀c,Bd b (aCL s w m c)
 |0,_,c=>Bd.zero.mono h1
 |m+1,hm,c=>by
  unfold aCL kX
  split
  ·exact hb m w (by omega) (by omega)
  ·exact aKp hb h1 hp m (by omega) c
theorem aF3 {s:RS} {h w:Nat} (hp:s.ps.length≤h) (hh:h≤1000) (hpw:∀j∈s.ps,j<w) (d:Rat) (K:Nat):∀(t i k:Nat),i+t=s.ps.length→t<k→kW K (w:Int) ⟨mx s.g h (w+1),wZ s.ps,d⟩ k (mp (aCL s w i) w) (i:Int)=some (mp (aCL s w s.ps.length) w)
 |0,i,k,hi,hk=>by
  obtain⟨k',rfl,_⟩:=bB hk
  have:i=s.ps.length:=by omega
  subst this
  simp only [kW,mM,dF (show¬(s.ps.length:Int)<(s.ps.length:Int) by omega),bU]
 |t+1,i,k,hi,hk=>by
  obtain⟨k',rfl,_⟩:=bB hk
  have hl:i<s.ps.length:=by omega
  have hw':=hpw _ (aKk hl)
  simp only [kW,mM,dT (show(i:Int)<(s.ps.length:Int) by omega),bY,rdI hl,oB,xN (g:=s.g) (w:=w+1) (show i<h by omega),dW (f:=s.g i) (show w<w+1 by omega),dW (f:=aCL s w i) hw',w6 (f:=aCL s w i) hw',sW (i:=i) (by omega)]
  exact aF3 hp hh hpw d K t (i+1) k' (by omega) (by omega)
def aAv (g:Nat→Nat→Rat) (f:Nat→Rat) (h w:Nat):Option (List Rat):=
 let s:=vV (wid g f w) h w
 if aAX s.g w (h-s.ps.length) s.ps.length=true then none else some (mp (aCL s w s.ps.length) w)
theorem aK3 {g:Nat→Nat→Rat} {f:Nat→Rat} {h w b:Nat} (hg:vU h w b g) (hf:∀i,i<h→Bd b (f i)) (hc:Cok h w) (hb:2≤b) (hB:5^w*b≤200000000) (hh:h≤64) (hw:w≤63) {K:Nat} (hK:w+1+h<K):
  uD K (mx g h w) (mp f h)=some (match aAv g f h w with|none=>([],6)|some x=>(x,0)):=by
 have hgw:=aMu hg hf
 have r:=aGv hgw hb w (by omega)
 have h29:=aFU (g:=g) (f:=f) hh (show w≤64 by omega) K h 0 K (by omega) (by omega)
 have z1:mx (wid g f w) 0 (w+1)=[]:=rfl
 rw [z1] at h29
 simp only [Int.natCast_zero,vA] at h29
 have hrd:=aFK hgw hb (show w≤w+1 by omega) hB (show h≤1000 by omega) (show w+1≤1000 by omega) (K:=K) (by omega)
 have hpk:∀j∈(vV (wid g f w) h w).ps,j<w:=r.pk
 have hbig:5^w*b≤1073741824:=by omega
 unfold aAv
 generalize vV (wid g f w) h w=s at *
 have hp:=r.ph
 have h38:=aF4 r.bd hbig (show h≤1000 by omega) hp K (h-s.ps.length) 0 K (by omega) (by omega)
 have h65:=aF3 hp (show h≤1000 by omega) hpk s.d K s.ps.length 0 K (by omega) (by omega)
 simp only [Int.natCast_zero,Nat.add_zero,aCL] at h38 h65
 have hsl:slL (mx s.g h (w+1)) (s.ps.length:Int) (h:Int)=some (mp (fun j=>mp (s.g (s.ps.length+j)) (w+1)) (h-s.ps.length)):=aR3 (f:=fun j=>mp (s.g j) (w+1)) hp
 simp only [uD,aHA hc hh (show w≤64 by omega) (K:=K) (by omega),oB,Bool.not_true,bU,aZ,nG,nF (rfl:(h:Int)=(h:Int)),aGZ hc,h29,s0,hrd,mM,hsl,h38]
 by_cases hin:aAX s.g w (h-s.ps.length) s.ps.length=true
 ·simp only [if_pos hin]
 ·simp only [if_neg hin,s8,aFq (n:=w) (z:=(0:Rat)) (by omega),oB,h65,sP]
theorem aLi {g:Nat→Nat→Rat} {f:Nat→Rat} {h w b:Nat} (hg:vU h w b g) (hf:∀i,i<h→Bd b (f i)) (hb:2≤b) {x:List Rat} (hx:aAv g f h w=some x):x.length=w∧Bds (5^w*b) x:=by
 have r:=aGv (aMu hg hf) hb w (by omega)
 unfold aAv at hx
 generalize vV (wid g f w) h w=s at *
 by_cases hin:aAX s.g w (h-s.ps.length) s.ps.length=true
 ·simp only [if_pos hin] at hx;cases hx
 ·simp only [if_neg hin,Option.some.injEq] at hx
  subst hx
  exact⟨aZ _ _,z5 fun i _=>aKp r.bd (by have:=aIw w b hb;omega) r.ph _ (Nat.le_refl _) i⟩
end Go.Proofs.YtolfcbpgmfbgmaaGreat
set_option linter.unusedVariables false
namespace Go.Proofs.YtolfcbpgmfbgmaaGreat
/-- The size of a sum of products. -/
theorem aMU {f e:Nat→Rat} {w b b':Nat} (hf:∀c,c<w→Bd b (f c)) (he:∀c,c<w→Bd b' (e c)):∀i,i≤w→Bd (1+i*(b+b'+1)) (sm (fun c=>f c*e c) i)
 |0,_=>Bd.zero.mono (by omega)
 |i+1,hi=>by
  simp only [sm]
  have hs:1+i*(b+b'+1)+(b+b')+1=1+(i+1)*(b+b'+1):=by rw [Nat.add_mul];omega
  exact((aMU hf he i (by omega)).add ((hf i (by omega)).mul (he i (by omega)))).mono (by omega)
def aIk (g:Nat→Nat→Rat) (v:Nat→Rat) (w i:Nat):Rat:=sm (fun c=>g i c*v c) w
theorem aNc {f e:Nat→Rat} {w b:Nat} (hf:∀c,c<w→Bd b (f c)) (he:∀c,c<w→Bd b (e c)) (hb:b≤1000000) (hw:w≤100) (K:Nat):∀(t i k:Nat),i+t=w→t<k→Bd (1+i*(b+b+1)) (sm (fun c=>f c*e c) i)→Bd (1+w*(b+b+1)) (sm (fun c=>f c*e c) w)∧jH K (mp f w) (mp e w) k (sm (fun c=>f c*e c) i) (i:Int)=some (sm (fun c=>f c*e c) w)
 |0,i,k,hi,hk,ha=>by
  obtain⟨k',rfl,_⟩:=bB hk
  have:i=w:=by omega
  subst this
  exact⟨ha,by simp only [jH,aZ,dF (show¬(i:Int)<(i:Int) by omega),bU]⟩
 |t+1,i,k,hi,hk,ha=>by
  obtain⟨k',rfl,_⟩:=bB hk
  have hx:=hf i (by omega)
  have hy:=he i (by omega)
  have hib:i*(b+b+1)≤100*2000001:=Nat.mul_le_mul (by omega) (by omega)
  have hs:1+i*(b+b+1)+(b+b)+1=1+(i+1)*(b+b+1):=by rw [Nat.add_mul];omega
  obtain⟨r1,r2⟩:=aNc hf he hb hw K t (i+1) k' (by omega) (by omega) (by simp only [sm];exact(ha.add (hx.mul hy)).mono (by omega))
  refine⟨r1,?_⟩
  simp only [jH,aZ,dT (show(i:Int)<(w:Int) by omega),bY,dW (f:=f) (show i<w by omega),dW (f:=e) (show i<w by omega),oB,aAL hx hy (by omega) (by omega),aC0 ha (hx.mul hy) (by omega) (by omega),sW (i:=i) (by omega)]
  exact r2
theorem aQp {f e:Nat→Rat} {w b:Nat} (hf:∀c,c<w→Bd b (f c)) (he:∀c,c<w→Bd b (e c)) (hb:b≤1000000) (hw:w≤100) {K:Nat} (hK:w<K):Bd (1+w*(b+b+1)) (sm (fun c=>f c*e c) w)∧lX K (mp f w) (mp e w)=some (sm (fun c=>f c*e c) w):=by
 obtain⟨r1,r2⟩:=aNc hf he hb hw K w 0 K (by omega) hK (Bd.zero.mono (by omega))
 simp only [Int.natCast_zero,sm] at r2
 exact⟨r1,by simp only [lX,r2,oB,qV]⟩
end Go.Proofs.YtolfcbpgmfbgmaaGreat
set_option linter.unusedVariables false
namespace Go.Proofs.YtolfcbpgmfbgmaaGreat
/-- A vector and the right side. -/
def ext (x:Nat→Rat) (w c:Nat):Rat:=if c<w then x c else -1
end Go.Proofs.YtolfcbpgmfbgmaaGreat
set_option linter.unusedVariables false
namespace Go.Proofs.YtolfcbpgmfbgmaaGreat
/-- A turned matrix. -/
def tr (g:Nat→Nat→Rat) (i k:Nat):Rat:=g k i
def zS (g q:Nat→Nat→Rat) (w i j:Nat):Rat:=aIk (tr q) (g i) w j
end Go.Proofs.YtolfcbpgmfbgmaaGreat
set_option linter.unusedVariables false
namespace Go.Proofs.YtolfcbpgmfbgmaaGreat
theorem aRd:sgn 0=1:=rfl
def zD (i c:Nat):Rat:=if i=c then 1 else 0
theorem aEi:∀n,dt n zD=1
 |0=>rfl
 |n+1=>by
  rw [dt,aDN (p:=0) (by omega) fun k _ hk=>by unfold zD;rw [if_neg (fun e=>hk e.symm)];grind]
  have e:dt n (mnr zD 0)=dt n zD:=uV fun i c _ _=>by
   unfold mnr zD skp
   rw [if_neg (Nat.not_lt_zero c)]
   by_cases h:i=c
   ·rw [if_pos h,if_pos (by omega)]
   ·rw [if_neg h,if_neg (by omega)]
  rw [e,aEi n,aRd]
  unfold zD
  rw [if_pos rfl];grind
theorem aLH {h k:Nat} {s:RS} (hs:RJ h k s):∀i,i<s.ps.length→i≤pat s.ps i
 |0,_=>Nat.zero_le _
 |i+1,hi=>by
  have:=aLH hs i (by omega)
  have:=hs.inc i (i+1) (by omega) hi
  omega
theorem aHJ {h k:Nat} {s:RS} (hs:RJ h k s):∀t i,i+t+1=s.ps.length→pat s.ps i+t<k
 |0,i,hi=>hs.pk i (by omega)
 |t+1,i,hi=>by
  have:=aHJ hs t (i+1) (by omega)
  have:=hs.inc i (i+1) (by omega) (by omega)
  omega
theorem aMe {h k:Nat} {s:RS} (hs:RJ h k s) (hf:s.ps.length=k) {i:Nat} (hi:i<k):pat s.ps i=i:=by
 have h1:=aLH hs i (by omega)
 have h2:=aHJ hs (k-1-i) i (by omega)
 omega
theorem aDl {h k:Nat} {s:RS} (hs:RJ h k s) (hf:s.ps.length=k) {i c:Nat} (hi:i<h) (hc:c<k):s.g i c=if i=c then 1 else 0:=by
 have:=hs.one c i (by omega) hi
 rw [aMe hs hf hc] at this
 exact this
def aQG (g:Nat→Nat→Rat) (n:Nat):Rat:=if(vV g n n).ps.length=n then(vV g n n).d else 0
theorem aQs {g:Nat→Nat→Rat} {n:Nat}:dt n g=aQG g n:=by
 have hJ:=aJq (g:=g) (h:=n) n
 unfold aQG
 rw [(aE9 n).red0 (g:=g) n]
 split
 ·rename_i hf
  rw [uV (g':=zD) fun i c hi hc=>aDl hJ hf hi hc,aEi];grind
 ·rename_i hf
  have hlt:(vV g n n).ps.length<n:=by have:=hJ.ph;omega
  rw [uV (g':=fun i c=>if c<n then(vV g n n).g i c else 0) fun i c hi hc=>by rw [if_pos hc],(aE9 n).zero (i:=n-1) (by omega) ?_]
  ·grind
  ·funext c
   split
   ·rename_i hc
    exact hJ.z (n-1) c (by omega) (by omega) hc
   ·rfl
theorem aLC (q:Nat→Nat→Rat) (n w:Nat):Alt n fun g=>dt n (zS g q w):=by
 have eu:∀(g:Nat→Nat→Rat) (f:Nat→Rat) (i:Nat),zS (kX g i f) q w=kX (zS g q w) i (fun j=>aIk (tr q) f w j):=by
  intro g f i
  funext j c
  unfold zS
  by_cases h:j=i
  ·subst h;rw [aT,aT]
  ·rw [bN h,bN h]
 refine⟨fun g g' h=>uV fun i c hi _=>?_,fun g u v a i hi=>?_,fun g i j hi hj hne=>?_⟩
 ·unfold zS;rw [h i hi]
 ·show dt n _=dt n _-a*dt n _
  rw [eu,eu,eu,←aJc hi]
  congr 2
  funext j
  unfold aIk
  rw [←aDH]
  exact fO fun c _=>by grind
 ·exact(aE9 n).swap (zS g q w) i j hi hj hne
theorem aMR {g q:Nat→Nat→Rat} {n:Nat}:dt n (zS g q n)=dt n g*dt n q:=by
 have hJ:=aJq (g:=g) (h:=n) n
 have hm:dt n (zS g q n)=(vV g n n).d*dt n (zS (vV g n n).g q n):=(aLC q n n).red0 (g:=g) n
 rw [hm,aQs (g:=g)]
 unfold aQG
 split
 ·rename_i hf
  rw [uV (g:=zS (vV g n n).g q n) (g':=q) fun i c hi hc=>?_]
  unfold zS aIk tr
  rw [aDN (p:=i) hi fun j hj hne=>by rw [aDl hJ hf hi hj,if_neg (fun e=>hne e.symm)];grind]
  rw [aDl hJ hf hi hi,if_pos rfl];grind
 ·rename_i hf
  have hlt:(vV g n n).ps.length<n:=by have:=hJ.ph;omega
  rw [(aE9 n).zero (g:=zS (vV g n n).g q n) (i:=n-1) (by omega) (by
   funext c
   unfold zS aIk
   exact aD8 fun j hj=>by rw [hJ.z (n-1) j (by omega) (by omega) hj];grind)]
  grind
def aHO (g:Nat→Nat→Rat) (h w:Nat):Nat:=(vV g h w).ps.length
end Go.Proofs.YtolfcbpgmfbgmaaGreat
set_option linter.unusedVariables false
namespace Go.Proofs.YtolfcbpgmfbgmaaGreat
/-- The unit matrix with one column replaced. -/
def aIx (i:Nat) (x:Nat→Rat) (r c:Nat):Rat:=if c=i then x r else if r=c then 1 else 0
theorem aN3 {n i:Nat} (hi:i<n) (x:Nat→Rat):dt n (aIx i x)=x i:=by
 have a:=aE9 n
 have e1:aIx i x=kX (aIx i x) i (fun c=>x i*zD i c):=by
  funext r c
  by_cases h:r=i
  ·subst h
   rw [aT]
   unfold aIx zD
   by_cases h2:c=r
   ·rw [if_pos h2,if_pos h2.symm,Rat.mul_one]
   ·rw [if_neg h2,if_neg (show¬r=c from fun e=>h2 e.symm),Rat.mul_zero]
  ·rw [bN h]
 have e2:dt n (kX (aIx i x) i (zD i))=1:=by
  rw [←a.elm0 (g:=kX (aIx i x) i (zD i)) (n:=i) (k:=i) hi n (Nat.le_refl n),←aEi n]
  refine uV fun r c hr hc=>?_
  unfold elm
  by_cases h:r=i
  ·subst h
   rw [if_neg (fun h2=>h2.2 rfl),aT]
  ·rw [if_pos ⟨hr,h⟩,bN h,aT]
   unfold aIx zD
   rw [if_pos rfl]
   by_cases h2:c=i
   ·rw [if_pos h2,if_pos h2.symm,Rat.mul_one,Rat.sub_self,if_neg (by omega)]
   ·rw [if_neg h2,if_neg (show¬i=c from fun e=>h2 e.symm),Rat.mul_zero,Rat.sub_eq_add_neg,Rat.neg_zero,Rat.add_zero]
 rw [e1,a.scale hi,e2,Rat.mul_one]
def aI0 (Z:Nat→Nat→Rat) (b:Nat→Nat) (r j:Nat):Rat:=Z r (b j)
def aFM (Z:Nat→Nat→Rat) (b:Nat→Nat) (i k:Nat) (r j:Nat):Rat:=if j=i then Z r k else Z r (b j)
theorem aPW {n w:Nat} {E Z T:Nat→Nat→Rat} {b:Nat→Nat} (hT:∀i c,i<n→c<w→T i c=zS E Z n i c) (hb:∀j,j<n→b j<w) (hu:∀i j,i<n→j<n→T i (b j)=if i=j then 1 else 0) {i k:Nat} (hi:i<n) (hk:k<w):dt n (aI0 Z b)≠0∧T i k=dt n (aFM Z b i k)/dt n (aI0 Z b):=by
 have h1:dt n E*dt n (aI0 Z b)=1:=by
  rw [←aMR,←aEi n]
  refine uV fun r c hr hc=>?_
  show zS E Z n r (b c)=_
  rw [←hT r (b c) hr (hb c hc),hu r c hr hc];rfl
 have h2:dt n E*dt n (aFM Z b i k)=T i k:=by
  rw [←aMR,←aN3 hi (fun r=>T r k)]
  refine uV fun r c hr hc=>?_
  unfold aIx
  by_cases h:c=i
  ·rw [if_pos h]
   show _=T r k
   rw [hT r k hr hk]
   unfold zS aIk tr aFM
   simp [h]
  ·rw [if_neg h,←hu r c hr hc,hT r (b c) hr (hb c hc)]
   unfold zS aIk tr aFM
   simp [h]
 have hne:dt n (aI0 Z b)≠0:=fun e=>by rw [e,Rat.mul_zero] at h1;exact absurd h1 (by decide)
 refine⟨hne,?_⟩
 rw [←h2,Rat.div_def]
 have:dt n E=(dt n (aI0 Z b))⁻¹:=by
  have h3:=congrArg (·*(dt n (aI0 Z b))⁻¹) h1
  simp only [Rat.mul_assoc,Rat.mul_inv_cancel _ hne,Rat.mul_one,Rat.one_mul] at h3
  exact h3
 rw [this,Rat.mul_comm]
def isZ (M:Nat) (x:Rat):Prop:=∃q:Int,x=(q:Rat)∧q.natAbs≤M
def fM (M:Nat):Nat→Nat
 |0=>1
 |n+1=>(n+1)*(M*fM M n)
theorem isZ.mono {M N:Nat} {x:Rat} (h:isZ M x) (hn:M≤N):isZ N x:=by
 obtain⟨q,h1,h2⟩:=h
 exact⟨q,h1,by omega⟩
theorem isZ.add {M N:Nat} {x y:Rat} (h:isZ M x) (k:isZ N y):isZ (M+N) (x+y):=by
 obtain⟨q,h1,h2⟩:=h
 obtain⟨p,k1,k2⟩:=k
 exact⟨q+p,by rw [h1,k1,Rat.intCast_add],by omega⟩
theorem isZ.mul {M N:Nat} {x y:Rat} (h:isZ M x) (k:isZ N y):isZ (M*N) (x*y):=by
 obtain⟨q,h1,h2⟩:=h
 obtain⟨p,k1,k2⟩:=k
 exact⟨q*p,by rw [h1,k1,Rat.intCast_mul],by rw [Int.natAbs_mul];exact Nat.mul_le_mul h2 k2⟩
theorem isZ.zero:isZ 0 0:=⟨0,rfl,Nat.le_refl _⟩
theorem aQU (k:Nat):isZ 1 (sgn k):=by
 unfold sgn
 split
 ·exact⟨1,rfl,by decide⟩
 ·exact⟨-1,rfl,by decide⟩
theorem aRW {f:Nat→Rat} {M:Nat}:∀n,(∀i,i<n→isZ M (f i))→isZ (n*M) (sm f n)
 |0,_=>by rw [Nat.zero_mul];exact isZ.zero
 |n+1,h=>by
  have:=(aRW n fun i hi=>h i (by omega)).add (h n (by omega))
  rw [Nat.succ_mul];exact this
theorem aP9 {M:Nat}:∀(n:Nat) (g:Nat→Nat→Rat),(∀i c,i<n→c<n→isZ M (g i c))→isZ (fM M n) (dt n g)
 |0,g,h=>⟨1,rfl,Nat.le_refl _⟩
 |n+1,g,h=>aRW (n+1) fun k hk=>by
  have h1:=aP9 n (mnr g k) fun i c hi hc=>h (i+1) (skp k c) (by omega) (aLF hc)
  have h2:=(aQU k).mul ((h 0 k (by omega) hk).mul h1)
  rw [Nat.one_mul] at h2
  first|exact h2|(rw [Rat.mul_assoc];exact h2)
theorem aKV {n w M k:Nat} {E Z T:Nat→Nat→Rat} {b:Nat→Nat} (hT:∀i c,i<n→c<w→T i c=zS E Z n i c) (hb:∀j,j<n→b j<w) (hu:∀i j,i<n→j<n→T i (b j)=if i=j then 1 else 0) (hZ:∀i c,i<n→c<w→isZ M (Z i c)) (hM:fM M n<2^k):vU n w k T:=fun i c hi hc=>by
 obtain⟨h1,h2⟩:=aPW hT hb hu hi hc
 obtain⟨p,p1,p2⟩:=aP9 n (aFM Z b i c) fun r j hr hj=>by
  unfold aFM
  split
  ·exact hZ r c hr hc
  ·exact hZ r (b j) hr (hb j hj)
 obtain⟨q,q1,q2⟩:=aP9 n (aI0 Z b) fun r j hr hj=>hZ r (b j) hr (hb j hj)
 rw [h2,p1,q1]
 refine Bd.of (fun e=>h1 (by rw [q1,e];rfl)) (Nat.lt_of_le_of_lt p2 hM) (Nat.lt_of_le_of_lt q2 hM)
end Go.Proofs.YtolfcbpgmfbgmaaGreat
set_option linter.unusedVariables false
namespace Go.Proofs.YtolfcbpgmfbgmaaGreat
/-- A tableau: its rows are combinations of those of Z, and the columns of the basic variables are those of the unit matrix. -/
structure TI (n w:Nat) (Z T:Nat→Nat→Rat) (b:Nat→Nat):Prop where
 ex:∃E:Nat→Nat→Rat,∀i c,i<n→c<w→T i c=zS E Z n i c
 lt:∀j,j<n→b j<w
 un:∀i j,i<n→j<n→T i (b j)=if i=j then 1 else 0
def sF (T:Nat→Nat→Rat) (r c i k:Nat):Rat:=if i=r then T r k/T r c else T i k-T i c*(T r k/T r c)
theorem yE {E Z:Nat→Nat→Rat} {n i k:Nat}:zS E Z n i k=sm (fun j=>Z j k*E i j) n:=by
 unfold zS aIk tr
 first|rfl|(refine fO fun j _=>?_;first|rfl|exact Rat.mul_comm _ _)
theorem TI.pivot {n w:Nat} {Z T:Nat→Nat→Rat} {b:Nat→Nat} (h:TI n w Z T b) {r c:Nat} (hr:r<n) (hc:c<w) (hp:T r c≠0):TI n w Z (sF T r c) (kX b r c):=by
 obtain⟨⟨E,hE⟩,hb,hu⟩:=h
 refine⟨⟨fun i j=>if i=r then E r j/T r c else E i j-T i c*(E r j/T r c),fun i k hi hk=>?_⟩,fun j hj=>?_,fun i j hi hj=>?_⟩
 ·rw [yE]
  have e1:T r k/T r c=sm (fun j=>Z j k*(E r j/T r c)) n:=by
   rw [hE r k hr hk,yE,Rat.div_def,Rat.mul_comm,←zQ]
   refine fO fun j _=>?_
   rw [Rat.div_def,Rat.mul_comm,Rat.mul_assoc]
  unfold sF
  by_cases e:i=r
  ·rw [if_pos e,e1]
   exact fO fun j _=>by rw [if_pos e]
  ·rw [if_neg e,hE i k hi hk,yE,e1,←zQ,Rat.sub_eq_add_neg,←aGY,←aGe]
   refine fO fun j _=>?_
   rw [if_neg e,Rat.sub_eq_add_neg,Rat.mul_add,Rat.mul_neg,←Rat.mul_assoc,←Rat.mul_assoc,Rat.mul_comm (T i c)]
 ·by_cases e:j=r
  ·rw [e,aT];exact hc
  ·rw [bN e];exact hb j hj
 ·unfold sF
  by_cases e:j=r
  ·rw [e,aT,Rat.div_def,Rat.mul_inv_cancel _ hp]
   by_cases e2:i=r
   ·rw [if_pos e2,if_pos e2]
   ·rw [if_neg e2,if_neg e2,Rat.mul_one,Rat.sub_self]
  ·have h0:T r (b j)=0:=by rw [hu r j hr hj,if_neg fun h=>e h.symm]
   rw [bN e,h0,Rat.div_def,Rat.zero_mul]
   by_cases e2:i=r
   ·rw [if_pos e2,if_neg (by omega)]
   ·rw [if_neg e2,Rat.mul_zero,Rat.sub_eq_add_neg,Rat.neg_zero,Rat.add_zero]
    exact hu i j hi hj
theorem TI.start {n w:Nat} {Z:Nat→Nat→Rat} (hw:n≤w) (hz:∀i j,i<n→j<n→Z i j=if i=j then 1 else 0):TI n w Z Z (fun j=>j):=
 ⟨⟨zD,fun i c hi hc=>by
  rw [yE]
  have:sm (fun j=>Z j c*zD i j) n=sm (fun j=>if j=i then Z i c else 0) n:=fO fun j _=>by
   unfold zD
   by_cases e:j=i
   ·rw [if_pos e,e,if_pos rfl,Rat.mul_one]
   ·rw [if_neg e,if_neg (fun h=>e h.symm),Rat.mul_zero]
  rw [this]
  have key:∀m,m≤n→sm (fun j=>if j=i then Z i c else 0) m=if i<m then Z i c else 0:=by
   intro m
   induction m with
   |zero=>intro _;rw [if_neg (by omega)];rfl
   |succ m ih=>
    intro hm
    show sm _ m+(if m=i then Z i c else 0)=_
    rw [ih (by omega)]
    by_cases e:m=i
    ·rw [if_pos e,if_neg (by omega),if_pos (by omega),Rat.zero_add]
    ·rw [if_neg e,Rat.add_zero]
     by_cases e2:i<m
     ·rw [if_pos e2,if_pos (by omega)]
     ·rw [if_neg e2,if_neg (by omega)]
  rw [key n (Nat.le_refl n),if_pos hi]⟩,fun j hj=>by omega,fun i j hi hj=>hz i j hi hj⟩
theorem aPa {M:Nat}:∀n,n≤64→fM M n≤(64*M)^n
 |0,_=>Nat.le_refl _
 |n+1,h=>by
  show(n+1)*(M*fM M n)≤_
  rw [Nat.pow_succ,Nat.mul_comm ((64*M)^n),←Nat.mul_assoc]
  exact Nat.mul_le_mul (Nat.mul_le_mul_right M h) (aPa n (by omega))
theorem TI.scale {n w:Nat} {Z T:Nat→Nat→Rat} {b:Nat→Nat} (h:TI n w Z T b) {D:Rat} (hD:D≠0):TI n w (fun i c=>Z i c*D) T b:=by
 obtain⟨⟨E,hE⟩,hb,hu⟩:=h
 refine⟨⟨fun i j=>E i j/D,fun i c hi hc=>?_⟩,hb,hu⟩
 rw [hE i c hi hc,yE,yE]
 refine fO fun j _=>?_
 rw [Rat.div_def,Rat.mul_comm (E i j),Rat.mul_assoc,←Rat.mul_assoc D,Rat.mul_inv_cancel _ hD,Rat.one_mul]
theorem TI.bd {n w M k:Nat} {Z T:Nat→Nat→Rat} {b:Nat→Nat} {D:Rat} (h:TI n w Z T b) (hD:D≠0) (hZ:∀i c,i<n→c<w→isZ M (Z i c*D)) (hn:n≤64) (hM:(64*M)^n<2^k):vU n w k T:=by
 obtain⟨⟨E,hE⟩,hb,hu⟩:=h.scale hD
 exact aKV hE hb hu hZ (Nat.lt_of_le_of_lt (aPa n hn) hM)
end Go.Proofs.YtolfcbpgmfbgmaaGreat
set_option linter.unusedVariables false
namespace Go.Proofs.YtolfcbpgmfbgmaaGreat
end Go.Proofs.YtolfcbpgmfbgmaaGreat
set_option linter.unusedVariables false
namespace Go.Proofs.YtolfcbpgmfbgmaaGreat
end Go.Proofs.YtolfcbpgmfbgmaaGreat
set_option linter.unusedVariables false
namespace Go.Proofs.YtolfcbpgmfbgmaaGreat
end Go.Proofs.YtolfcbpgmfbgmaaGreat
set_option linter.unusedVariables false
namespace Go.Proofs.YtolfcbpgmfbgmaaGreat
theorem aJU {m:Nat} {a:Rat} (ha:Bd m a) (hm:m≤1073741824):aLD a=some true:=by unfold aLD;rw [ha.qs hm];rfl
end Go.Proofs.YtolfcbpgmfbgmaaGreat
set_option linter.unusedVariables false
namespace Go.Proofs.YtolfcbpgmfbgmaaGreat
end Go.Proofs.YtolfcbpgmfbgmaaGreat
set_option linter.unusedVariables false
namespace Go.Proofs.YtolfcbpgmfbgmaaGreat
end Go.Proofs.YtolfcbpgmfbgmaaGreat
set_option linter.unusedVariables false
namespace Go.Proofs.YtolfcbpgmfbgmaaGreat
end Go.Proofs.YtolfcbpgmfbgmaaGreat
set_option linter.unusedVariables false
namespace Go.Proofs.YtolfcbpgmfbgmaaGreat
def z0:Nat→Rat:=fun _=>0
theorem aMw:qof 1 1=some 1:=by rw [aG0 (by omega) (by omega),aMC]
end Go.Proofs.YtolfcbpgmfbgmaaGreat
set_option linter.unusedVariables false
namespace Go.Proofs.YtolfcbpgmfbgmaaGreat
def ord (N:Nat):List Nat:=mp (fun i=>i+1) N
end Go.Proofs.YtolfcbpgmfbgmaaGreat
set_option linter.unusedVariables false
namespace Go.Proofs.YtolfcbpgmfbgmaaGreat
theorem aDK:Bd 8 (1:Rat):=(show Bd 1 (1:Rat) by constructor<;>decide).mono (by omega)
end Go.Proofs.YtolfcbpgmfbgmaaGreat
set_option linter.unusedVariables false
namespace Go.Proofs.YtolfcbpgmfbgmaaGreat
/-- A number that is whole when it is multiplied so often. -/
def dn (D e M:Nat) (x:Rat):Prop:=isZ M (x*((D^e:Nat):Rat))
theorem dn.mono {D e M N:Nat} {x:Rat} (h:dn D e M x) (hn:M≤N):dn D e N x:=isZ.mono h hn
theorem dn.zero {D e M:Nat}:dn D e M 0:=⟨0,by rw [Rat.zero_mul];rfl,Nat.zero_le _⟩
theorem dn.add {D e M N:Nat} {x y:Rat} (h:dn D e M x) (k:dn D e N y):dn D e (M+N) (x+y):=by
 unfold dn;rw [Rat.add_mul];exact isZ.add h k
theorem dn.neg {D e M:Nat} {x:Rat} (h:dn D e M x):dn D e M (-x):=by
 obtain⟨q,h1,h2⟩:=h
 exact⟨-q,by rw [Rat.neg_mul,h1,Rat.intCast_neg],by omega⟩
theorem dn.mul {D e e' M N:Nat} {x y:Rat} (h:dn D e M x) (k:dn D e' N y):dn D (e+e') (M*N) (x*y):=by
 have:=isZ.mul h k
 unfold dn
 rw [Nat.pow_add,Rat.natCast_mul]
 have e2:x*y*(((D^e:Nat):Rat)*((D^e':Nat):Rat))=x*((D^e:Nat):Rat)*(y*((D^e':Nat):Rat)):=by
  rw [Rat.mul_assoc,←Rat.mul_assoc y,Rat.mul_comm y,Rat.mul_assoc ((D^e:Nat):Rat),←Rat.mul_assoc]
 rw [e2];exact this
theorem dn.up {D e M:Nat} {x:Rat} (h:dn D e M x):dn D (e+1) (M*D) x:=by
 have h1:dn D 1 D 1:=⟨(D:Int),by rw [Rat.one_mul,Nat.pow_one];rfl,by simp⟩
 have:=h.mul h1
 rwa [Rat.mul_one] at this
end Go.Proofs.YtolfcbpgmfbgmaaGreat
set_option linter.unusedVariables false
namespace Go.Proofs.YtolfcbpgmfbgmaaGreat
/-- The first tableau. -/
def yC (M:Nat→Nat→Rat) (q:Nat→Rat) (n i c:Nat):Rat:=
 if c<n then(if i=c then 1 else 0) else if c<2*n then -(M i (c-n)) else if c=2*n then -1 else q i
theorem aNg {M:Nat→Nat→Rat} {q:Nat→Rat} {n:Nat}:TI n (2*n+2) (yC M q n) (yC M q n) (fun j=>j):=TI.start (by omega) fun i j hi hj=>if_pos hj
end Go.Proofs.YtolfcbpgmfbgmaaGreat
set_option linter.unusedVariables false
namespace Go.Proofs.YtolfcbpgmfbgmaaGreat
/-- The rows of a tableau as they lie. -/
structure aAK (n w:Nat) (rs:List (List Rat)) (od:Nat→Nat) (T:Nat→Nat→Rat):Prop where
 lt:∀i,i<n→od i<rs.length
 inj:∀i j,i<n→j<n→od i=od j→i=j
 row:∀i,i<n→rs.getD (od i) []=mp (T i) w
def lH (n j:Nat):Nat:=if j=0 then 2*n+1 else j-1
def lx (T:Nat→Nat→Rat) (n i:Nat) (c:Rat) (k:Nat) (d:Rat):Nat→Nat→Bool
 |0,_=>false
 |t+1,j=>bif decide (T i (lH n j)/c=T k (lH n j)/d) then lx T n i c k d t (j+1) else decide (T i (lH n j)/c<T k (lH n j)/d)
def les (T:Nat→Nat→Rat) (n i:Nat) (c:Rat) (k:Nat) (d:Rat):Bool:=lx T n i c k d (n+1) 0
theorem aJ9 {m k:Nat} {a b:Rat} (ha:Bd m a) (hb:Bd k b) (hm:m≤1073741824) (hk:k≤1073741824):aLg a b=some (if a<b then -1 else if b<a then 1 else 0):=by
 unfold aLg;rw [ha.qs hm,hb.qs hk];rfl
theorem aDL {a b:Rat}:((if a<b then -1 else if b<a then 1 else 0:Int)=0↔a=b)∧decide ((if a<b then -1 else if b<a then 1 else 0:Int)<0)=decide (a<b):=by
 by_cases h:a<b
 ·rw [if_pos h]
  refine⟨⟨fun h2=>absurd h2 (by decide),fun h2=>?_⟩,by rw [decide_eq_true h];rfl⟩
  rw [h2] at h;exact absurd h (Rat.lt_irrefl)
 ·rw [if_neg h]
  by_cases h2:b<a
  ·rw [if_pos h2]
   refine⟨⟨fun h3=>absurd h3 (by decide),fun h3=>?_⟩,by rw [decide_eq_false h];rfl⟩
   rw [h3] at h2;exact absurd h2 (Rat.lt_irrefl)
  ·rw [if_neg h2]
   exact⟨⟨fun _=>Rat.le_antisymm (Rat.not_lt.1 h2) (Rat.not_lt.1 h),fun _=>rfl⟩,by rw [decide_eq_false h];rfl⟩
theorem aKz {n j:Nat} (h:j≤n):lH n j<2*n+2:=by unfold lH;split<;>omega
theorem aFC {n:Nat} {rs:List (List Rat)} {od:Nat→Nat} {T:Nat→Nat→Rat} (hr:aAK n (2*n+2) rs od T) {B C:Nat} (hT:vU n (2*n+2) B T) {i k:Nat} (hi:i<n) (hk:k<n) {c d:Rat} (hc:Bd C c) (hd:Bd C d) (hBC:B+C≤500000000) (hn:n≤1000) (K:Nat):
  ∀(t j fu:Nat),j+t=n+1→t<fu→aS K (i:Int) c (k:Int) d (n:Int) (mp od n) rs fu ((j:Int)-1)=some (.ret (lx T n i c k d t j))∨(lx T n i c k d t j=false∧aS K (i:Int) c (k:Int) d (n:Int) (mp od n) rs fu ((j:Int)-1)=some (.go ()))
 |0,j,fu,hj,hf=>by
  obtain⟨fu',rfl,_⟩:=bB hf
  refine .inr ⟨rfl,?_⟩
  simp only [aS,dF (show¬(j:Int)-1<(n:Int) by omega),bU]
 |t+1,j,fu,hj,hf=>by
  obtain⟨fu',rfl,_⟩:=bB hf
  have hl:=aKz (n:=n) (j:=j) (by omega)
  have b1:=(hT i _ hi hl).div hc
  have b2:=(hT k _ hk hl).div hd
  have ih:=aFC hr hT hi hk hc hd hBC hn K t (j+1) fu' (by omega) (by omega)
  have key:dI K (i:Int) c (k:Int) d (mp od n) rs ((j:Int)-1) (aS K (i:Int) c (k:Int) d (n:Int) (mp od n) rs fu') ((lH n j:Nat):Int)=bif decide (T i (lH n j)/c=T k (lH n j)/d) then aS K (i:Int) c (k:Int) d (n:Int) (mp od n) rs fu' (((j+1:Nat):Int)-1) else some (.ret (decide (T i (lH n j)/c<T k (lH n j)/d))):=by
   simp only [dI,dW (f:=od) hi,dW (f:=od) hk,oB,hr.row i hi,hr.row k hk,dW (f:=T i) hl,dW (f:=T k) hl,aAO (hT i _ hi hl) hc (by omega) (by omega),aAO (hT k _ hk hl) hd (by omega) (by omega),aJ9 b1 b2 (by omega) (by omega)]
   by_cases h:T i (lH n j)/c=T k (lH n j)/d
   ·rw [nF (aDL.1.2 h),bU,decide_eq_true h,bY,oX (by omega),oB]
    congr 1
    omega
   ·rw [nT (fun h2=>h (aDL.1.1 h2)),bY,decide_eq_false h,bU,aDL.2]
  have main:aS K (i:Int) c (k:Int) d (n:Int) (mp od n) rs (fu'+1) ((j:Int)-1)=bif decide (T i (lH n j)/c=T k (lH n j)/d) then aS K (i:Int) c (k:Int) d (n:Int) (mp od n) rs fu' (((j+1:Nat):Int)-1) else some (.ret (decide (T i (lH n j)/c<T k (lH n j)/d))):=by
   rw [←key]
   by_cases h0:j=0
   ·subst h0
    have c1:aQ (2*(n:Int))=some (2*(n:Int)):=oX (by omega)
    have c2:aQ (2*(n:Int)+1)=some ((lH n 0:Nat):Int):=by
     rw [oX (by omega)];congr 1
    simp only [aS,dT (show((0:Nat):Int)-1<(n:Int) by omega),bY,dT (show((0:Nat):Int)-1<0 by omega),c1,c2,oB]
   ·have e:((lH n j:Nat):Int)=(j:Int)-1:=by unfold lH;rw [if_neg h0];omega
    rw [e]
    simp only [aS,dT (show(j:Int)-1<(n:Int) by omega),bY,dF (show¬(j:Int)-1<0 by omega),bU]
  rw [main]
  have el:lx T n i c k d (t+1) j=bif decide (T i (lH n j)/c=T k (lH n j)/d) then lx T n i c k d t (j+1) else decide (T i (lH n j)/c<T k (lH n j)/d):=rfl
  rw [el]
  by_cases h:T i (lH n j)/c=T k (lH n j)/d
  ·rw [decide_eq_true h,bY,bY];exact ih
  ·rw [decide_eq_false h,bU,bU];exact .inl rfl
theorem aHT {n:Nat} {rs:List (List Rat)} {od:Nat→Nat} {T:Nat→Nat→Rat} {a6:List Int} (hr:aAK n (2*n+2) rs od T) {B C:Nat} (hT:vU n (2*n+2) B T) {i k:Nat} (hi:i<n) (hk:k<n) {c d:Rat} (hc:Bd C c) (hd:Bd C d) (hBC:B+C≤500000000) (hn:n≤1000) {K:Nat} (hK:2000≤K):dL K (i:Int) c (k:Int) d (n:Int) (mp od n) a6 rs=some (les T n i c k d):=by
 have:=aFC hr hT hi hk hc hd hBC hn K (n+1) 0 K (by omega) (by omega)
 rw [show((0:Nat):Int)-1=-1 from rfl] at this
 rcases this with h|⟨h1,h2⟩
 ·simp only [dL,h,oB];rfl
 ·simp only [dL,h2,oB,iR]
  exact congrArg some h1.symm
def y8 (T:Nat→Nat→Rat) (n i:Nat) (c:Rat) (j:Nat):Rat:=T i (lH n j)/c
theorem aKx {n:Nat} {T:Nat→Nat→Rat} {B C i:Nat} {c:Rat} (hT:vU n (2*n+2) B T) (hi:i<n) (hc:Bd C c) (hB:B≤1073741824) (hC:C≤1073741824) (hn:n≤1000) (K:Nat):∀(t j fu:Nat),j+t=n→t<fu→mG K (mp (T i) (2*n+2)) (n:Int) c fu (mp (y8 T n i c) (j+1)) (j:Int)=some (mp (y8 T n i c) (n+1))
 |0,j,fu,hj,hf=>by
  obtain⟨fu',rfl,_⟩:=bB hf
  have e:j=n:=by omega
  subst e
  simp only [mG,dF (show¬(j:Int)<(j:Int) by omega),bU]
 |t+1,j,fu,hj,hf=>by
  obtain⟨fu',rfl,_⟩:=bB hf
  have e:y8 T n i c (j+1)=T i j/c:=by unfold y8 lH;rw [if_neg (by omega),Nat.add_sub_cancel]
  have ap:=apM (g:=y8 T n i c) (i:=j+1) (by omega)
  rw [e] at ap
  simp only [mG,dT (show(j:Int)<(n:Int) by omega),bY,dW (f:=T i) (n:=2*n+2) (i:=j) (by omega),oB,aAO (hT i j hi (by omega)) hc hB hC,ap,sW (i:=j) (by omega)]
  exact aKx hT hi hc hB hC hn K t (j+1) fu' (by omega) (by omega)
theorem aGP {n:Nat} {T:Nat→Nat→Rat} {B C i:Nat} {c:Rat} (hT:vU n (2*n+2) B T) (hi:i<n) (hc:Bd C c) (hB:B≤1073741824) (hC:C≤1073741824) (hn:n≤1000) {K:Nat} (hK:2000≤K):nV K (mp (T i) (2*n+2)) (n:Int) c=some (mp (y8 T n i c) (n+1)):=by
 have:=aKx hT hi hc hB hC hn K n 0 K (by omega) (by omega)
 simp only [Int.natCast_zero] at this
 have c1:aQ (2*(n:Int))=some (2*(n:Int)):=oX (by omega)
 have c2:aQ (2*(n:Int)+1)=some ((2*n+1:Nat):Int):=by rw [oX (by omega)];congr 1
 have e:[T i (2*n+1)/c]=mp (y8 T n i c) (0+1):=rfl
 simp only [nV,c1,c2,oB,dW (f:=T i) (n:=2*n+2) (i:=2*n+1) (by omega),aAO (hT i (2*n+1) hi (by omega)) hc hB hC,e,this,wT]
theorem aFN {n:Nat} {T:Nat→Nat→Rat} {B C i k:Nat} {c d:Rat} (hT:vU n (2*n+2) B T) (hi:i<n) (hk:k<n) (hc:Bd C c) (hd:Bd C d) (hBC:B+C≤500000000) (hn:n≤1000) (K:Nat):∀(t j fu:Nat),j+t=n+1→t<fu→iY K (mp (y8 T n i c) (n+1)) (mp (y8 T n k d) (n+1)) fu (j:Int)=some (.ret (lx T n i c k d t j))∨(lx T n i c k d t j=false∧iY K (mp (y8 T n i c) (n+1)) (mp (y8 T n k d) (n+1)) fu (j:Int)=some (.go ()))
 |0,j,fu,hj,hf=>by
  obtain⟨fu',rfl,_⟩:=bB hf
  refine .inr ⟨rfl,?_⟩
  simp only [iY,aZ,dF (show¬(j:Int)<((n+1:Nat):Int) by omega),bU]
 |t+1,j,fu,hj,hf=>by
  obtain⟨fu',rfl,_⟩:=bB hf
  have hl:=aKz (n:=n) (j:=j) (by omega)
  have b1:Bd (B+C) (y8 T n i c j):=(hT i _ hi hl).div hc
  have b2:Bd (B+C) (y8 T n k d j):=(hT k _ hk hl).div hd
  have ih:=aFN hT hi hk hc hd hBC hn K t (j+1) fu' (by omega) (by omega)
  have el:lx T n i c k d (t+1) j=bif decide (y8 T n i c j=y8 T n k d j) then lx T n i c k d t (j+1) else decide (y8 T n i c j<y8 T n k d j):=rfl
  rw [el]
  simp only [iY,aZ,dT (show(j:Int)<((n+1:Nat):Int) by omega),bY,dW (f:=y8 T n i c) (n:=n+1) (i:=j) (by omega),dW (f:=y8 T n k d) (n:=n+1) (i:=j) (by omega),oB,aJ9 b1 b2 (by omega) (by omega)]
  by_cases h:y8 T n i c j=y8 T n k d j
  ·rw [nF (aDL.1.2 h),bU,decide_eq_true h,bY,sW (i:=j) (by omega),oB];exact ih
  ·rw [nT (fun h2=>h (aDL.1.1 h2)),bY,decide_eq_false h,bU,aDL.2];exact .inl rfl
theorem aFH {n:Nat} {T:Nat→Nat→Rat} {B C i k:Nat} {c d:Rat} (hT:vU n (2*n+2) B T) (hi:i<n) (hk:k<n) (hc:Bd C c) (hd:Bd C d) (hBC:B+C≤500000000) (hn:n≤1000) {K:Nat} (hK:2000≤K):nL K (mp (y8 T n i c) (n+1)) (mp (y8 T n k d) (n+1))=some (les T n i c k d):=by
 have:=aFN hT hi hk hc hd hBC hn K (n+1) 0 K (by omega) (by omega)
 simp only [Int.natCast_zero] at this
 rcases this with h|⟨h1,h2⟩
 ·simp only [nL,h,oB];rfl
 ·simp only [nL,h2,oB,vO]
  exact congrArg some h1.symm
end Go.Proofs.YtolfcbpgmfbgmaaGreat
set_option linter.unusedVariables false
namespace Go.Proofs.YtolfcbpgmfbgmaaGreat
def zG (T:Nat→Nat→Rat) (r c k:Nat):Rat:=T r k/T r c
theorem aIp {n w r c B:Nat} {T:Nat→Nat→Rat} (hT:vU n w B T) (hr:r<n) (hc:c<w) (hB:B≤500000000) (hw:w≤100000) (K:Nat):∀(t k fu:Nat),k+t=w→t<fu→k8 K (mx T n w) (r:Int) (c:Int) fu (mp (zG T r c) k) (k:Int)=some (mp (zG T r c) w)
 |0,k,fu,hk,hf=>by
  obtain⟨fu',rfl,_⟩:=bB hf
  have e:k=w:=by omega
  subst e
  simp only [k8,xN (g:=T) (w:=k) hr,oB,aZ,dF (show¬(k:Int)<(k:Int) by omega),bU]
 |t+1,k,fu,hk,hf=>by
  obtain⟨fu',rfl,_⟩:=bB hf
  have hkw:k<w:=by omega
  have ap:=apM (g:=zG T r c) (i:=k) (by omega)
  simp only [k8,xN (g:=T) (w:=w) hr,oB,aZ,dT (show(k:Int)<(w:Int) by omega),bY,dW (f:=T r) hkw,dW (f:=T r) hc,aAO (hT r k hr hkw) (hT r c hr hc) (by omega) (by omega),show T r k/T r c=zG T r c k from rfl,ap,sW (i:=k) (by omega)]
  exact aIp hT hr hc hB hw K t (k+1) fu' (by omega) (by omega)
theorem aJz {n w r c B k:Nat} {T:Nat→Nat→Rat} (hT:vU n w B T) (hr:r<n) (hc:c<w) (hk:k<w):Bd (B+B) (zG T r c k):=(hT r k hr hk).div (hT r c hr hc)
theorem aHL {n w r c i B:Nat} {T:Nat→Nat→Rat} (hT:vU n w B T) (hr:r<n) (hc:c<w) (hi:i<n) (hne:i≠r) (hB:B≤200000000) (hw:w≤100000) (K:Nat):∀(t k fu:Nat),k+t=w→t<fu→k5 K (mx T n w) (c:Int) (mp (zG T r c) w) (i:Int) fu (mp (sF T r c i) k) (k:Int)=some (mp (sF T r c i) w)
 |0,k,fu,hk,hf=>by
  obtain⟨fu',rfl,_⟩:=bB hf
  have e:k=w:=by omega
  subst e
  simp only [k5,aZ,dF (show¬(k:Int)<(k:Int) by omega),bU]
 |t+1,k,fu,hk,hf=>by
  obtain⟨fu',rfl,_⟩:=bB hf
  have hkw:k<w:=by omega
  have ap:=apM (g:=sF T r c i) (i:=k) (by omega)
  have e:T i k-T i c*zG T r c k=sF T r c i k:=by unfold sF zG;rw [if_neg hne]
  have b:=aJz hT hr hc hkw
  have b2:=hT i c hi hc
  simp only [k5,aZ,dT (show(k:Int)<(w:Int) by omega),bY,xN (g:=T) (w:=w) hi,oB,dW (f:=T i) hkw,dW (f:=T i) hc,dW (f:=zG T r c) hkw,aAL b2 b (by omega) (by omega),aGR (hT i k hi hkw) (b2.mul b) (by omega) (by omega),e,ap,sW (i:=k) (by omega)]
  exact aHL hT hr hc hi hne hB hw K t (k+1) fu' (by omega) (by omega)
theorem aIe {n w r c B:Nat} {T:Nat→Nat→Rat} (hT:vU n w B T) (hr:r<n) (hc:c<w) (hB:B≤200000000) (hw:w≤100000) (hn:n≤100000) {K:Nat} (hK:w<K):∀(t i fu:Nat),i+t=n→t<fu→gM K (mx T n w) (r:Int) (c:Int) (mp (zG T r c) w) fu (mx (sF T r c) i w) (i:Int)=some (mx (sF T r c) n w)
 |0,i,fu,hk,hf=>by
  obtain⟨fu',rfl,_⟩:=bB hf
  have e:i=n:=by omega
  subst e
  simp only [gM,nG,dF (show¬(i:Int)<(i:Int) by omega),bU]
 |t+1,i,fu,hk,hf=>by
  obtain⟨fu',rfl,_⟩:=bB hf
  have hin:i<n:=by omega
  have ap:rM (mx (sF T r c) i w) [mp (sF T r c i) w]=some (mx (sF T r c) (i+1) w):=apM (g:=fun i=>mp (sF T r c i) w) (by omega)
  have ih:=aIe hT hr hc hB hw hn hK t (i+1) fu' (by omega) (by omega)
  by_cases e:i=r
  ·have e2:mp (zG T r c) w=mp (sF T r c i) w:=gS fun k _=>by unfold sF zG;rw [if_pos e]
   simp only [gM,nG,dT (show(i:Int)<(n:Int) by omega),bY,qT (show(i:Int)=(r:Int) by omega)]
   rw [e2] at ih ⊢
   simp only [ap,oB,sW (i:=i) (by omega)]
   exact ih
  ·have h82:=aHL hT hr hc hin e hB hw K w 0 K (by omega) hK
   simp only [Int.natCast_zero,vA] at h82
   simp only [gM,nG,dT (show(i:Int)<(n:Int) by omega),bY,qF (show(i:Int)≠(r:Int) by omega),bU,h82,oB,vR,ap,sW (i:=i) (by omega)]
   exact ih
theorem aN9 {n w r c B:Nat} {T:Nat→Nat→Rat} (hT:vU n w B T) (hr:r<n) (hc:c<w) (hB:B≤200000000) (hw:w≤100000) (hn:n≤100000) {K:Nat} (hK:w+n<K):uR K (mx T n w) (r:Int) (c:Int)=some (mx (sF T r c) n w):=by
 have e1:=aIp hT hr hc (by omega) hw K w 0 K (by omega) (by omega)
 have e2:=aIe hT hr hc hB hw hn (K:=K) (by omega) n 0 K (by omega) (by omega)
 have e3:mx (sF T r c) 0 w=[]:=rfl
 rw [e3] at e2
 simp only [Int.natCast_zero,vA] at e1 e2
 simp only [uR,e1,oB,vN,e2,vS]
theorem aQu {xs ys:List Rat} (h:xs.length=ys.length):cpL xs ys=ys:=by
 unfold cpL
 rw [h,Nat.min_self,List.take_length,←h,List.drop_length,List.append_nil]
theorem aE2 {rs:List (List Rat)} {o p:Nat} {x:List Rat} (ho:o<rs.length):(rs.set o x).getD p []=if p=o then x else rs.getD p []:=by
 rw [List.getD_eq_getElem?_getD,List.getD_eq_getElem?_getD,List.getElem?_set]
 by_cases h:o=p
 ·subst h;rw [if_pos rfl,if_pos ho,if_pos rfl];rfl
 ·rw [if_neg h,if_neg (fun e=>h e.symm)]
theorem aAK.set {n w:Nat} {rs:List (List Rat)} {od:Nat→Nat} {T:Nat→Nat→Rat} (h:aAK n w rs od T) {i:Nat} (hi:i<n) (f:Nat→Rat):aAK n w (rs.set (od i) (mp f w)) od (kX T i f):=
 ⟨fun j hj=>by rw [List.length_set];exact h.lt j hj,h.inj,fun j hj=>by
  rw [aE2 (h.lt i hi)]
  by_cases e:j=i
  ·subst e;rw [if_pos rfl,aT]
  ·rw [if_neg (fun e2=>e (h.inj j i hj hi e2)),bN e]
   exact h.row j hj⟩
theorem aAK.congr {n w:Nat} {rs:List (List Rat)} {od:Nat→Nat} {T T':Nat→Nat→Rat} (h:aAK n w rs od T) (e:∀i k,i<n→k<w→T i k=T' i k):aAK n w rs od T':=
 ⟨h.lt,h.inj,fun i hi=>by rw [h.row i hi];exact gS fun k hk=>e i k hi hk⟩
theorem aHY {w v27 B:Nat} {a5:List (List Rat)} {x22:List Rat} {g:Nat→Rat} {p:Rat} (hx:cpL x22 (a5.getD v27 [])=mp g w) (hg:∀k,k<w→Bd B (g k)) (hp:Bd B p) (hB:B≤1073741824) (hw:w≤100000) (K:Nat):∀(t k fu:Nat),k+t=w→t<fu→cE K a5 x22 v27 p fu (mp (fun j=>if j<k then g j/p else g j) w) (k:Int)=some (mp (fun j=>g j/p) w)
 |0,k,fu,hk,hf=>by
  obtain⟨fu',rfl,_⟩:=bB hf
  have e:k=w:=by omega
  subst e
  simp only [cE,hx,aZ,dF (show¬(k:Int)<(k:Int) by omega),bU]
  exact congrArg some (gS fun j hj=>if_pos hj)
 |t+1,k,fu,hk,hf=>by
  obtain⟨fu',rfl,_⟩:=bB hf
  have hkw:k<w:=by omega
  have e1:(fun j=>if j<k then g j/p else g j) k=g k:=if_neg (by omega)
  have e2:mp (kX (fun j=>if j<k then g j/p else g j) k (g k/p)) w=mp (fun j=>if j<k+1 then g j/p else g j) w:=gS fun j _=>by
   by_cases e:j=k
   ·subst e;rw [aT,if_pos (by omega)]
   ·rw [bN e]
    by_cases hlt:j<k
    ·rw [if_pos hlt,if_pos (by omega)]
    ·rw [if_neg hlt,if_neg (by omega)]
  simp only [cE,hx,aZ,dT (show(k:Int)<(w:Int) by omega),bY,dW (f:=fun j=>if j<k then g j/p else g j) hkw,e1,oB,aAO (hg k hkw) hp hB hB,w6 (f:=fun j=>if j<k then g j/p else g j) hkw,e2,sW (i:=k) (by omega)]
  exact aHY hx hg hp hB hw K t (k+1) fu' (by omega) (by omega)
theorem aFY {w o B:Nat} {a5 x66:List (List Rat)} {g q:Nat→Rat} {x:Rat} (ho:o<x66.length) (hne:a5.length≠o) (h66:x66.getD o []=mp g w) (hq:x66.getD a5.length []=mp q w) (hg:∀k,k<w→Bd B (g k)) (hqb:∀k,k<w→Bd (B+B) (q k)) (hx:Bd B x) (hB:B≤200000000) (hw:w≤100000) (K:Nat):∀(t k fu:Nat),k+t=w→t<fu→b0 K a5 x66 o x fu (x66.set o (mp (fun j=>if j<k then g j-x*q j else g j) w)) (k:Int)=some (x66.set o (mp (fun j=>g j-x*q j) w))
 |0,k,fu,hk,hf=>by
  obtain⟨fu',rfl,_⟩:=bB hf
  have e:k=w:=by omega
  subst e
  simp only [b0,h66,aZ,dF (show¬(k:Int)<(k:Int) by omega),bU]
  exact congrArg (fun z=>some (x66.set o z)) (gS fun j hj=>if_pos hj)
 |t+1,k,fu,hk,hf=>by
  obtain⟨fu',rfl,_⟩:=bB hf
  have hkw:k<w:=by omega
  have e1:(fun j=>if j<k then g j-x*q j else g j) k=g k:=if_neg (by omega)
  have e2:mp (kX (fun j=>if j<k then g j-x*q j else g j) k (g k-x*q k)) w=mp (fun j=>if j<k+1 then g j-x*q j else g j) w:=gS fun j _=>by
   by_cases e:j=k
   ·subst e;rw [aT,if_pos (by omega)]
   ·rw [bN e]
    by_cases hlt:j<k
    ·rw [if_pos hlt,if_pos (by omega)]
    ·rw [if_neg hlt,if_neg (by omega)]
  have r1:(x66.set o (mp (fun j=>if j<k then g j-x*q j else g j) w)).getD o []=mp (fun j=>if j<k then g j-x*q j else g j) w:=by rw [aE2 ho,if_pos rfl]
  have r2:(x66.set o (mp (fun j=>if j<k then g j-x*q j else g j) w)).getD a5.length []=mp q w:=by rw [aE2 ho,if_neg hne];exact hq
  simp only [b0,h66,aZ,dT (show(k:Int)<(w:Int) by omega),bY,r1,r2,dW (f:=fun j=>if j<k then g j-x*q j else g j) hkw,dW (f:=q) hkw,e1,oB,aAL hx (hqb k hkw) (by omega) (by omega),aGR (hg k hkw) (hx.mul (hqb k hkw)) (by omega) (by omega),w6 (f:=fun j=>if j<k then g j-x*q j else g j) hkw,e2,List.set_set,sW (i:=k) (by omega)]
  exact aFY ho hne h66 hq hg hqb hx hB hw K t (k+1) fu' (by omega) (by omega)
def pst (T:Nat→Nat→Rat) (r c t i k:Nat):Rat:=if i<t∨i=r then sF T r c i k else T i k
theorem aNf {T:Nat→Nat→Rat} {r c t:Nat}:∀i k,(kX (pst T r c t) t (sF T r c t)) i k=pst T r c (t+1) i k:=fun i k=>by
 by_cases e:i=t
 ·subst e;rw [aT];unfold pst;rw [if_pos (.inl (by omega))]
 ·rw [bN e];unfold pst
  by_cases h:i<t∨i=r
  ·rw [if_pos h,if_pos (by omega)]
  ·rw [if_neg h,if_neg (by omega)]
theorem aIo {T:Nat→Nat→Rat} {r c t:Nat} (h:t=r∨T t c=0):∀i k,pst T r c t i k=pst T r c (t+1) i k:=fun i k=>by
 unfold pst
 by_cases h1:i<t∨i=r
 ·rw [if_pos h1,if_pos (by omega)]
 ·rw [if_neg h1]
  by_cases e:i=t
  ·subst e
   have h2:T i c=0:=by rcases h with h|h;exact absurd (.inr h) h1;exact h
   rw [if_pos (.inl (by omega))]
   unfold sF
   rw [if_neg (fun e=>h1 (.inr e)),h2,Rat.zero_mul,Rat.sub_eq_add_neg,Rat.neg_zero,Rat.add_zero]
  ·rw [if_neg (by omega)]
theorem aCQ {n w r c B:Nat} {a5:List (List Rat)} {od:Nat→Nat} {T:Nat→Nat→Rat} (hT:vU n w B T) (hr:r<n) (hc:c<w) (hor:od r=a5.length) (hB:B≤200000000) (hw:w≤100000) (hn:n≤100000) {K:Nat} (hK:w<K):∀(t i fu:Nat) (rs:List (List Rat)),i+t=n→t<fu→aAK n w rs od (pst T r c i)→∃rs',bA K (r:Int) (c:Int) a5 (mp od n) fu rs (i:Int)=some rs'∧aAK n w rs' od (sF T r c)
 |0,i,fu,rs,hk,hf,h=>by
  obtain⟨fu',rfl,_⟩:=bB hf
  have e:i=n:=by omega
  subst e
  refine⟨rs,by simp only [bA,aZ,dF (show¬(i:Int)<(i:Int) by omega),bU],h.congr fun j k hj _=>if_pos (.inl hj)⟩
 |t+1,i,fu,rs,hk,hf,h=>by
  obtain⟨fu',rfl,_⟩:=bB hf
  have hin:i<n:=by omega
  have hrow:=h.row i hin
  by_cases e:i=r
  ·obtain⟨rs',g1,g2⟩:=aCQ hT hr hc hor hB hw hn hK t (i+1) fu' rs (by omega) (by omega) (h.congr fun j k _ _=>aIo (.inl e) j k)
   refine⟨rs',?_,g2⟩
   simp only [bA,aZ,dT (show(i:Int)<(n:Int) by omega),bY,dW (f:=od) hin,oB,hrow,dW (f:=pst T r c i i) hc,qT (show(i:Int)=(r:Int) by omega),sW (i:=i) (by omega)]
   exact g1
  ·have ei:pst T r c i i=T i:=by funext k;unfold pst;rw [if_neg (by omega)]
   rw [ei] at hrow
   by_cases hz:T i c=0
   ·obtain⟨rs',g1,g2⟩:=aCQ hT hr hc hor hB hw hn hK t (i+1) fu' rs (by omega) (by omega) (h.congr fun j k _ _=>aIo (.inr hz) j k)
    refine⟨rs',?_,g2⟩
    simp only [bA,aZ,dT (show(i:Int)<(n:Int) by omega),bY,dW (f:=od) hin,oB,hrow,dW (f:=T i) hc,qF (show(i:Int)≠(r:Int) by omega),bU,uJ (hT i c hin hc) (by omega),qT (aD3.2 hz),sW (i:=i) (by omega)]
    exact g1
   ·have hne:a5.length≠od i:=fun h2=>e (h.inj i r hin hr (by rw [←h2,hor]))
    have hq:rs.getD a5.length []=mp (zG T r c) w:=by
     rw [←hor,h.row r hr]
     exact gS fun k _=>by unfold pst sF zG;rw [if_pos (.inr rfl),if_pos rfl]
    have h112:=aFY (h.lt i hin) hne hrow hq (fun k hk=>hT i k hin hk) (fun k hk=>aJz hT hr hc hk) (hT i c hin hc) hB hw K w 0 K (by omega) hK
    have e0:rs.set (od i) (mp (fun j=>if j<0 then T i j-T i c*zG T r c j else T i j) w)=rs:=by
     have e9:mp (fun j=>if j<0 then T i j-T i c*zG T r c j else T i j) w=rs.getD (od i) []:=by
      rw [hrow];exact gS fun j _=>if_neg (by omega)
     rw [e9,List.getD_eq_getElem?_getD,List.getElem?_eq_getElem (h.lt i hin),Option.getD_some,List.set_getElem_self]
    rw [e0] at h112
    simp only [Int.natCast_zero] at h112
    have e1:mp (fun j=>T i j-T i c*zG T r c j) w=mp (sF T r c i) w:=gS fun j _=>by unfold sF zG;rw [if_neg e]
    rw [e1] at h112
    obtain⟨rs',g1,g2⟩:=aCQ hT hr hc hor hB hw hn hK t (i+1) fu' _ (by omega) (by omega) ((h.set hin (sF T r c i)).congr fun j k _ _=>aNf j k)
    refine⟨rs',?_,g2⟩
    simp only [bA,aZ,dT (show(i:Int)<(n:Int) by omega),bY,dW (f:=od) hin,oB,hrow,dW (f:=T i) hc,qF (show(i:Int)≠(r:Int) by omega),bU,uJ (hT i c hin hc) (by omega),qF (fun h2=>hz (aD3.1 h2)),h112,gZ,sW (i:=i) (by omega)]
    exact g1
theorem aNK {n w r c B:Nat} {rs:List (List Rat)} {od b:Nat→Nat} {T:Nat→Nat→Rat} {a2:Int} (h:aAK n w rs od T) (hT:vU n w B T) (hr:r<n) (hc:c<w) (hB:B≤200000000) (hw:w≤100000) (hn:n≤100000) {K:Nat} (hK:w+n<K):∃rs' od',gT K (r:Int) (c:Int) a2 (mp od n) (mp (fun i=>((b i:Nat):Int)) n) rs=some (((b r:Nat):Int),mp od' n,mp (fun i=>((kX b r c i:Nat):Int)) n,rs')∧aAK n w rs' od' (sF T r c):=by
 have hrow:=h.row r hr
 have hcp:cpL (mp (fun _=>(0:Rat)) w) (rs.getD (od r) [])=mp (T r) w:=by rw [hrow];exact aQu (by rw [aZ,aZ])
 have h53:=aHY hcp (fun k hk=>hT r k hr hk) (hT r c hr hc) (by omega) hw K w 0 K (by omega) (by omega)
 have e0:mp (fun j=>if j<0 then T r j/T r c else T r j) w=mp (T r) w:=gS fun j _=>if_neg (by omega)
 rw [e0] at h53
 have h0:aAK n w (rs++[mp (zG T r c) w]) (kX od r rs.length) (pst T r c 0):=by
  refine⟨fun i hi=>?_,fun i j hi hj e=>?_,fun i hi=>?_⟩
  ·by_cases e:i=r
   ·rw [e,aT];simp
   ·rw [bN e];have:=h.lt i hi;simp;omega
  ·by_cases e1:i=r
   ·by_cases e2:j=r
    ·rw [e1,e2]
    ·rw [e1,aT,bN e2] at e;have:=h.lt j hj;omega
   ·by_cases e2:j=r
    ·rw [e2,aT,bN e1] at e;have:=h.lt i hi;omega
    ·rw [bN e1,bN e2] at e;exact h.inj i j hi hj e
  ·by_cases e:i=r
   ·rw [e,aT,List.getD_eq_getElem?_getD,List.getElem?_append_right (Nat.le_refl _),Nat.sub_self]
    show mp (zG T r c) w=_
    exact gS fun k _=>by unfold pst sF zG;rw [if_pos (.inr rfl),if_pos rfl]
   ·have hl:=h.lt i hi
    rw [bN e,List.getD_eq_getElem?_getD,List.getElem?_append_left hl,←List.getD_eq_getElem?_getD,h.row i hi]
    exact gS fun k _=>by unfold pst;rw [if_neg (by omega)]
 obtain⟨rs',g1,g2⟩:=aCQ (a5:=rs) hT hr hc aT hB hw hn (K:=K) (by omega) n 0 K _ (by omega) (by omega) h0
 simp only [Int.natCast_zero] at h53 g1
 have e3:mp (fun j=>T r j/T r c) w=mp (zG T r c) w:=rfl
 rw [e3] at h53
 have e4:mp (kX (fun i=>((b i:Nat):Int)) r (c:Int)) n=mp (fun i=>((kX b r c i:Nat):Int)) n:=gS fun i _=>by
  by_cases e:i=r
  ·rw [e,aT,aT]
  ·rw [bN e,bN e]
 refine⟨rs',kX od r rs.length,?_,g2⟩
 simp only [gT,dW (f:=od) hr,oB,hrow,aZ,aFq (z:=(0:Rat)) (n:=w) (by omega)]
 rw [←hrow,hcp]
 simp only [dW (f:=T r) hc,oB,h53,iI,dW (f:=od) hr,w6 (f:=od) hr,g1,iH,dW (f:=fun i=>((b i:Nat):Int)) hr,w6 (f:=fun i=>((b i:Nat):Int)) hr,e4]
end Go.Proofs.YtolfcbpgmfbgmaaGreat
set_option linter.unusedVariables false
namespace Go.Proofs.YtolfcbpgmfbgmaaGreat
def enc (s:Option Nat):Int:=match s with|none=>-1|some r=>(r:Int)
def sel (T:Nat→Nat→Rat) (n c:Nat):Nat→Nat→Option Nat→Option Nat
 |0,_,s=>s
 |t+1,i,s=>bif decide (0<(T i c).num.sign) then(match s with
  |none=>sel T n c t (i+1) (some i)
  |some r=>bif les T n i (T i c) r (T r c) then sel T n c t (i+1) (some i) else sel T n c t (i+1) (some r)) else sel T n c t (i+1) s
theorem yZ {T:Nat→Nat→Rat} {n c:Nat}:∀t i s r,(∀q,s=some q→q<i∧0<(T q c).num.sign)→sel T n c t i s=some r→r<i+t∧0<(T r c).num.sign
 |0,i,s,r,h,e=>by have:=h r e;exact⟨by omega,this.2⟩
 |t+1,i,s,r,h,e=>by
  unfold sel at e
  by_cases hp:0<(T i c).num.sign
  ·rw [decide_eq_true hp,bY] at e
   have hi:∀q,some i=some q→q<i+1∧0<(T q c).num.sign:=fun q hq=>by cases hq;exact⟨by omega,hp⟩
   cases s with
   |none=>have:=yZ t (i+1) (some i) r hi e;exact⟨by omega,this.2⟩
   |some p=>
    have hs:∀q,some p=some q→q<i+1∧0<(T q c).num.sign:=fun q hq=>by have:=h q hq;exact⟨by omega,this.2⟩
    simp only at e
    cases hl:les T n i (T i c) p (T p c)
    ·rw [hl,bU] at e;have:=yZ t (i+1) (some p) r hs e;exact⟨by omega,this.2⟩
    ·rw [hl,bY] at e;have:=yZ t (i+1) (some i) r hi e;exact⟨by omega,this.2⟩
  ·rw [decide_eq_false hp,bU] at e
   have:=yZ t (i+1) s r (fun q hq=>by have:=h q hq;exact⟨by omega,this.2⟩) e
   exact⟨by omega,this.2⟩
theorem aF6 {n c B:Nat} {rs:List (List Rat)} {od:Nat→Nat} {T:Nat→Nat→Rat} {v6:Int×(List Nat)×(List Int)×(List (List Rat))} {x:Int} {bs:List Int} (h6:v6.1=(n:Int)) (h:aAK n (2*n+2) rs od T) (hT:vU n (2*n+2) B T) (hc:c<2*n+2) (hB:B≤200000000) (hn:n≤1000) {K:Nat} (hK:2000≤K):∀(t i fu:Nat) (s:Option Nat),i+t=n→t<fu→(∀q,s=some q→q<i)→cR K v6 (x,mp od n,bs,rs) (c:Int) fu (enc s) (i:Int)=some (enc (sel T n c t i s))
 |0,i,fu,s,hi,hf,hs=>by
  obtain⟨fu',rfl,_⟩:=bB hf
  simp only [cR,aZ,dF (show¬(i:Int)<(n:Int) by omega),bU,sel]
 |t+1,i,fu,s,hi,hf,hs=>by
  obtain⟨fu',rfl,_⟩:=bB hf
  have hin:i<n:=by omega
  have hb:=hT i c hin hc
  have ih:=fun s hs=>aF6 (x:=x) (bs:=bs) h6 h hT hc hB hn hK t (i+1) fu' s (by omega) (by omega) hs
  simp only [cR,aZ,dT (show(i:Int)<(n:Int) by omega),bY,dW (f:=od) hin,oB,h.row i hin,dW (f:=T i) hc,uJ hb (by omega),sel]
  by_cases hp:0<(T i c).num.sign
  ·simp only [dT hp,bY]
   cases s with
   |none=>
    simp only [enc,dT (show(-1:Int)<0 by omega),bY,sW (i:=i) (by omega),oB]
    exact ih (some i) (fun q hq=>by cases hq;omega)
   |some p=>
    have hpn:p<n:=by have:=hs p rfl;omega
    have hl:=aHT (a6:=bs) h hT hin hpn hb (hT p c hpn hc) (by omega) hn hK
    simp only [enc,dF (show¬(p:Int)<0 by omega),bU,dW (f:=od) hpn,h.row p hpn,dW (f:=T p) hc,oB,h6,hl]
    cases les T n i (T i c) p (T p c)
    ·simp only [bU,sW (i:=i) (by omega),oB]
     exact ih (some p) (fun q hq=>by have:=hs q hq;omega)
    ·simp only [bY,sW (i:=i) (by omega),oB]
     exact ih (some i) (fun q hq=>by cases hq;omega)
  ·simp only [dF hp,bU,sW (i:=i) (by omega),oB]
   exact ih s (fun q hq=>by have:=hs q hq;omega)
theorem aFy {n c B:Nat} {T:Nat→Nat→Rat} {a1:List Rat} (h1:a1.length=n) (hT:vU n (2*n+2) B T) (hc:c<2*n+2) (hB:B≤200000000) (hn:n≤1000) {K:Nat} (hK:2000≤K):∀(t i fu:Nat) (s:Option Nat),i+t=n→t<fu→(∀q,s=some q→q<i)→d9 K a1 (mx T n (2*n+2)) (c:Int) fu (enc s) (i:Int)=some (enc (sel T n c t i s))
 |0,i,fu,s,hi,hf,hs=>by
  obtain⟨fu',rfl,_⟩:=bB hf
  simp only [d9,h1,dF (show¬(i:Int)<(n:Int) by omega),bU,sel]
 |t+1,i,fu,s,hi,hf,hs=>by
  obtain⟨fu',rfl,_⟩:=bB hf
  have hin:i<n:=by omega
  have hb:=hT i c hin hc
  have ih:=fun s hs=>aFy h1 hT hc hB hn hK t (i+1) fu' s (by omega) (by omega) hs
  simp only [d9,h1,dT (show(i:Int)<(n:Int) by omega),bY,xN (g:=T) (w:=2*n+2) hin,oB,dW (f:=T i) hc,uJ hb (by omega),sel]
  by_cases hp:0<(T i c).num.sign
  ·simp only [dT hp,dF (show¬(T i c).num.sign≤0 by omega),bY,bU]
   cases s with
   |none=>
    simp only [enc,dT (show(-1:Int)<0 by omega),bY,sW (i:=i) (by omega),oB]
    exact ih (some i) (fun q hq=>by cases hq;omega)
   |some p=>
    have hpn:p<n:=by have:=hs p rfl;omega
    have hbp:=hT p c hpn hc
    have hl:=aFH hT hin hpn hb hbp (by omega) hn hK
    simp only [enc,dF (show¬(p:Int)<0 by omega),bU,aGP hT hin hb (by omega) (by omega) hn hK,xN (g:=T) (w:=2*n+2) hpn,dW (f:=T p) hc,oB,aGP hT hpn hbp (by omega) (by omega) hn hK,hl]
    cases les T n i (T i c) p (T p c)
    ·simp only [bU,sW (i:=i) (by omega),oB]
     exact ih (some p) (fun q hq=>by have:=hs q hq;omega)
    ·simp only [bY,sW (i:=i) (by omega),oB]
     exact ih (some i) (fun q hq=>by cases hq;omega)
  ·simp only [dF hp,dT (show(T i c).num.sign≤0 by omega),bY,bU,sW (i:=i) (by omega),oB]
   exact ih s (fun q hq=>by have:=hs q hq;omega)
def swv (T:Nat→Nat→Rat) (b:Nat→Nat) (n:Nat):Nat→Nat→Rat
 |0=>z0
 |i+1=>if b i<n then kX (swv T b n i) (b i) (T i (2*n+1)) else swv T b n i
def szv (T:Nat→Nat→Rat) (b:Nat→Nat) (n:Nat):Nat→Nat→Rat
 |0=>z0
 |i+1=>if b i<n then szv T b n i else if b i<2*n then kX (szv T b n i) (b i-n) (T i (2*n+1)) else szv T b n i
theorem aHB {n:Nat} {rs:List (List Rat)} {od b:Nat→Nat} {T:Nat→Nat→Rat} (h:aAK n (2*n+2) rs od T) (hn:n≤1000) (K:Nat):∀(t i fu:Nat),i+t=n→t<fu→bF K (n:Int) (mp od n) (mp (fun i=>((b i:Nat):Int)) n) rs fu (mp (swv T b n i) n) (mp (szv T b n i) n) (i:Int)=some (mp (swv T b n n) n,mp (szv T b n n) n)
 |0,i,fu,hi,hf=>by
  obtain⟨fu',rfl,_⟩:=bB hf
  have e:i=n:=by omega
  subst e
  simp only [bF,aZ,dF (show¬(i:Int)<(i:Int) by omega),bU]
 |t+1,i,fu,hi,hf=>by
  obtain⟨fu',rfl,_⟩:=bB hf
  have hin:i<n:=by omega
  have ih:=aHB (b:=b) h hn K t (i+1) fu' (by omega) (by omega)
  have c1:aQ (2*(n:Int))=some (2*(n:Int)):=oX (by omega)
  have c2:aQ (2*(n:Int)+1)=some ((2*n+1:Nat):Int):=by rw [oX (by omega)];congr 1
  simp only [bF,aZ,dT (show(i:Int)<(n:Int) by omega),bY,dW (f:=fun i=>((b i:Nat):Int)) hin,dW (f:=od) hin,oB,c1,c2,h.row i hin,dW (f:=T i) (n:=2*n+2) (i:=2*n+1) (by omega)]
  by_cases h1:b i<n
  ·have e1:swv T b n (i+1)=kX (swv T b n i) (b i) (T i (2*n+1)):=if_pos h1
   have e2:szv T b n (i+1)=szv T b n i:=if_pos h1
   rw [e1,e2] at ih
   simp only [dT (show((b i:Nat):Int)<(n:Int) by omega),bY,dW (f:=swv T b n i) h1,w6 (f:=swv T b n i) h1,oB,sW (i:=i) (by omega)]
   exact ih
  ·have e1:swv T b n (i+1)=swv T b n i:=if_neg h1
   by_cases h2:b i<2*n
   ·have e2:szv T b n (i+1)=kX (szv T b n i) (b i-n) (T i (2*n+1)):=by
     show(if b i<n then _ else _)=_
     rw [if_neg h1,if_pos h2]
    have c3:aQ (((b i:Nat):Int)-(n:Int))=some ((b i-n:Nat):Int):=by rw [show((b i:Nat):Int)-(n:Int)=((b i-n:Nat):Int) by omega,oX (by omega)]
    rw [e1,e2] at ih
    simp only [dF (show¬((b i:Nat):Int)<(n:Int) by omega),bU,dT (show((b i:Nat):Int)<2*(n:Int) by omega),bY,c3,oB,dW (f:=szv T b n i) (n:=n) (i:=b i-n) (by omega),w6 (f:=szv T b n i) (n:=n) (i:=b i-n) (by omega),sW (i:=i) (by omega)]
    exact ih
   ·have e2:szv T b n (i+1)=szv T b n i:=by
     show(if b i<n then _ else _)=_
     rw [if_neg h1,if_neg h2]
    rw [e1,e2] at ih
    simp only [dF (show¬((b i:Nat):Int)<(n:Int) by omega),bU,dF (show¬((b i:Nat):Int)<2*(n:Int) by omega),sW (i:=i) (by omega),oB]
    exact ih
theorem aKn {n:Nat} {rs:List (List Rat)} {od b:Nat→Nat} {T:Nat→Nat→Rat} (h:aAK n (2*n+2) rs od T) (hn:n≤1000) {K:Nat} (hK:2000≤K):eE K (n:Int) (mp od n) (mp (fun i=>((b i:Nat):Int)) n) rs=some ⟨mp (szv T b n n) n,mp (swv T b n n) n,0⟩:=by
 have:=aHB (b:=b) h hn K n 0 K (by omega) (by omega)
 simp only [Int.natCast_zero] at this
 have e:mp (fun _=>(0:Rat)) n=mp (swv T b n 0) n:=rfl
 have e2:mp (swv T b n 0) n=mp (szv T b n 0) n:=rfl
 simp only [eE,aFq (z:=(0:Rat)) (n:=n) (by omega),oB,e]
 rw [show bF K (n:Int) (mp od n) (mp (fun i=>((b i:Nat):Int)) n) rs K (mp (swv T b n 0) n) (mp (swv T b n 0) n) 0=_ from this]
 rfl
theorem aFE {n:Nat} {b:Nat→Nat} {T:Nat→Nat→Rat} {a1:List Rat} (h1:a1.length=n) (hb:∀i,i<n→b i<2*n) (hn:n≤1000) (K:Nat):∀(t i fu:Nat),i+t=n→t<fu→fX K a1 (mx T n (2*n+2)) (mp (fun i=>((b i:Nat):Int)) n) fu (mp (swv T b n i) n) (mp (szv T b n i) n) (i:Int)=some (mp (swv T b n n) n,mp (szv T b n n) n)
 |0,i,fu,hi,hf=>by
  obtain⟨fu',rfl,_⟩:=bB hf
  have e:i=n:=by omega
  subst e
  simp only [fX,h1,dF (show¬(i:Int)<(i:Int) by omega),bU]
 |t+1,i,fu,hi,hf=>by
  obtain⟨fu',rfl,_⟩:=bB hf
  have hin:i<n:=by omega
  have ih:=aFE (T:=T) h1 hb hn K t (i+1) fu' (by omega) (by omega)
  have c1:aQ (2*(n:Int))=some (2*(n:Int)):=oX (by omega)
  have c2:aQ (2*(n:Int)+1)=some ((2*n+1:Nat):Int):=by rw [oX (by omega)];congr 1
  have h2:=hb i hin
  simp only [fX,h1,dT (show(i:Int)<(n:Int) by omega),bY,dW (f:=fun i=>((b i:Nat):Int)) hin,oB]
  by_cases h3:b i<n
  ·have e1:swv T b n (i+1)=kX (swv T b n i) (b i) (T i (2*n+1)):=if_pos h3
   have e2:szv T b n (i+1)=szv T b n i:=if_pos h3
   rw [e1,e2] at ih
   simp only [dT (show((b i:Nat):Int)<(n:Int) by omega),bY,xN (g:=T) (w:=2*n+2) hin,c1,c2,oB,dW (f:=T i) (n:=2*n+2) (i:=2*n+1) (by omega),dW (f:=swv T b n i) h3,w6 (f:=swv T b n i) h3,sW (i:=i) (by omega)]
   exact ih
  ·have e1:swv T b n (i+1)=swv T b n i:=if_neg h3
   have e2:szv T b n (i+1)=kX (szv T b n i) (b i-n) (T i (2*n+1)):=by
    show(if b i<n then _ else _)=_
    rw [if_neg h3,if_pos h2]
   have c3:aQ (((b i:Nat):Int)-(n:Int))=some ((b i-n:Nat):Int):=by rw [show((b i:Nat):Int)-(n:Int)=((b i-n:Nat):Int) by omega,oX (by omega)]
   rw [e1,e2] at ih
   simp only [dF (show¬((b i:Nat):Int)<(n:Int) by omega),bU,c3,xN (g:=T) (w:=2*n+2) hin,c1,c2,oB,dW (f:=T i) (n:=2*n+2) (i:=2*n+1) (by omega),dW (f:=szv T b n i) (n:=n) (i:=b i-n) (by omega),w6 (f:=szv T b n i) (n:=n) (i:=b i-n) (by omega),sW (i:=i) (by omega)]
   exact ih
end Go.Proofs.YtolfcbpgmfbgmaaGreat
set_option linter.unusedVariables false
namespace Go.Proofs.YtolfcbpgmfbgmaaGreat
/-- The run from a tableau on. -/
def lem (n most:Nat):Nat→(Nat→Nat→Rat)→(Nat→Nat)→Nat→Nat→Nat→aL×Int
 |0,_,_,_,_,_=>(⟨[],[],0⟩,16)
 |f+1,T,b,r,c,cnt=>
  if cnt=most then(⟨[],[],0⟩,16)
  else if b r=2*n then(⟨mp (szv (sF T r c) (kX b r c) n n) n,mp (swv (sF T r c) (kX b r c) n n) n,((cnt+1:Nat):Int)⟩,0)
  else match sel (sF T r c) n (if b r<n then b r+n else b r-n) n 0 none with
   |none=>(⟨[],[],0⟩,15)
   |some r'=>lem n most f (sF T r c) (kX b r c) r' (if b r<n then b r+n else b r-n) (cnt+1)
structure LI (n:Nat) (Z T:Nat→Nat→Rat) (b:Nat→Nat) (r c:Nat):Prop where
 ti:TI n (2*n+2) Z T b
 hr:r<n
 hc:c≤2*n
 hp:T r c≠0
 hb:∀j,j<n→b j≤2*n
 fst:c=2*n→b r≠2*n
theorem TI.inj {n w:Nat} {Z T:Nat→Nat→Rat} {b:Nat→Nat} (h:TI n w Z T b) {i j:Nat} (hi:i<n) (hj:j<n) (e:b i=b j):i=j:=by
 by_cases h1:i=j
 ·exact h1
 ·have a:=h.un i i hi hi
  have c:=h.un i j hi hj
  rw [if_pos rfl,e] at a
  rw [if_neg h1,a] at c
  exact absurd c (by decide)
theorem aGW {n x:Nat} (hx:x≤2*n) (hne:x≠2*n):(if x<n then x+n else x-n)<2*n:=by split<;>omega
theorem LI.next {n:Nat} {Z T:Nat→Nat→Rat} {b:Nat→Nat} {r c r':Nat} (h:LI n Z T b r c) (hne:b r≠2*n) (hs:sel (sF T r c) n (if b r<n then b r+n else b r-n) n 0 none=some r'):LI n Z (sF T r c) (kX b r c) r' (if b r<n then b r+n else b r-n):=by
 have hlt:=aGW (h.hb r h.hr) hne
 obtain⟨s1,s2⟩:=yZ n 0 none r' (fun q hq=>by cases hq) hs
 refine⟨h.ti.pivot h.hr (by have:=h.hc;omega) h.hp,by omega,by omega,fun e=>?_,fun j hj=>?_,fun e=>by omega⟩
 ·rw [e] at s2;exact absurd s2 (by decide)
 ·by_cases e:j=r
  ·rw [e,aT];exact h.hc
  ·rw [bN e];exact h.hb j hj
def Sm (n B:Nat) (Z:Nat→Nat→Rat):Prop:=∀T b,TI n (2*n+2) Z T b→vU n (2*n+2) B T
theorem aQ1 {n most B:Nat} {Z:Nat→Nat→Rat} {v6:Int×(List Nat)×(List Int)×(List (List Rat))} (h6:v6.1=(n:Int)) (hZ:Sm n B Z) (hB:B≤200000000) (hn:n≤1000) (hm:most≤100000) {K:Nat} (hK:5000≤K):∀(f cnt fu:Nat) (rs:List (List Rat)) (od:Nat→Nat) (T:Nat→Nat→Rat) (b:Nat→Nat) (r c:Nat),cnt+f=most+1→0<f→f≤fu→aAK n (2*n+2) rs od T→LI n Z T b r c→
  cM K (most:Int) v6 fu (mp od n) (mp (fun i=>((b i:Nat):Int)) n) rs (r:Int) (c:Int) (cnt:Int)=some (.ret (lem n most f T b r c cnt))
 |0,cnt,fu,rs,od,T,b,r,c,hc,h0,hf,hR,h=>by omega
 |f+1,cnt,fu,rs,od,T,b,r,c,hc,h0,hf,hR,h=>by
  obtain⟨fu',rfl,hf'⟩:=bB (show f<fu by omega)
  unfold lem
  by_cases e:cnt=most
  ·rw [if_pos e]
   simp only [cM,qT (show(cnt:Int)=(most:Int) by omega),bY]
  ·rw [if_neg e]
   have hcw:=h.hc
   have hT:=hZ T b h.ti
   have ti':=h.ti.pivot h.hr (show c<2*n+2 by omega) h.hp
   have hT':=hZ _ _ ti'
   obtain⟨rs',od',p1,p2⟩:=aNK (b:=b) (a2:=v6.1) hR hT h.hr (show c<2*n+2 by omega) hB (by omega) (by omega) (K:=K) (by omega)
   have hbr:=h.hb r h.hr
   have c1:aQ (2*(n:Int))=some (2*(n:Int)):=oX (by omega)
   rw [h6] at p1
   simp only [cM,qF (show(cnt:Int)≠(most:Int) by omega),bU,h6,p1,oB,c1]
   by_cases e2:b r=2*n
   ·rw [if_pos e2]
    simp only [qT (show((b r:Nat):Int)=2*(n:Int) by omega),bY,aKn (b:=kX b r c) p2 hn (show 2000≤K by omega),oB,sW (i:=cnt) (by omega)]
   ·rw [if_neg e2]
    have hlt:=aGW hbr e2
    have c2:aQ (((b r:Nat):Int)+(n:Int))=some ((b r+n:Nat):Int):=by rw [oX (by omega)];rfl
    have hsel:=aF6 (v6:=v6) (x:=((b r:Nat):Int)) (bs:=mp (fun i=>((kX b r c i:Nat):Int)) n) h6 p2 hT' (show(if b r<n then b r+n else b r-n)<2*n+2 by omega) hB hn (show 2000≤K by omega) n 0 K none (by omega) (by omega) (fun q hq=>by cases hq)
    simp only [Int.natCast_zero,show enc none=(-1:Int) from rfl] at hsel
    have key:iW K v6 (cnt:Int) (((b r:Nat):Int),mp od' n,mp (fun i=>((kX b r c i:Nat):Int)) n,rs') (cM K (most:Int) v6 fu') (((if b r<n then b r+n else b r-n:Nat)):Int)=some (.ret (match sel (sF T r c) n (if b r<n then b r+n else b r-n) n 0 none with|none=>(⟨[],[],0⟩,15)|some r'=>lem n most f (sF T r c) (kX b r c) r' (if b r<n then b r+n else b r-n) (cnt+1))):=by
     simp only [iW,hsel,oB,nS]
     cases hs:sel (sF T r c) n (if b r<n then b r+n else b r-n) n 0 none with
     |none=>rfl
     |some r'=>
      simp only [enc,dF (show¬(r':Int)<0 by omega),bU,sW (i:=cnt) (by omega),oB]
      exact aQ1 h6 hZ hB hn hm hK f (cnt+1) fu' rs' od' _ _ r' _ (by omega) (by omega) (by omega) p2 (h.next e2 hs)
    simp only [qF (show((b r:Nat):Int)≠2*(n:Int) by omega),bU,c2,oB]
    by_cases h3:b r<n
    ·rw [if_pos h3] at key
     simp only [dF (show¬(n:Int)≤((b r:Nat):Int) by omega),bU,if_pos h3]
     exact key
    ·rw [if_neg h3] at key
     have c3:aQ (((b r:Nat):Int)-(n:Int))=some ((b r-n:Nat):Int):=by rw [show((b r:Nat):Int)-(n:Int)=((b r-n:Nat):Int) by omega,oX (by omega)]
     simp only [dT (show(n:Int)≤((b r:Nat):Int) by omega),bY,c3,oB,if_neg h3]
     exact key
theorem aQQ {n most B:Nat} {Z:Nat→Nat→Rat} {a1:List Rat} (h1:a1.length=n) (hZ:Sm n B Z) (hB:B≤200000000) (hn:n≤1000) (hm:most≤100000) {K:Nat} (hK:5000≤K):∀(f cnt fu:Nat) (T:Nat→Nat→Rat) (b:Nat→Nat) (r c:Nat),cnt+f=most+1→0<f→f≤fu→LI n Z T b r c→
  k7 K a1 (most:Int) fu (mp (fun i=>((b i:Nat):Int)) n) (mx T n (2*n+2)) (r:Int) (c:Int) (cnt:Int)=some (.ret (lem n most f T b r c cnt))
 |0,cnt,fu,T,b,r,c,hc,h0,hf,h=>by omega
 |f+1,cnt,fu,T,b,r,c,hc,h0,hf,h=>by
  obtain⟨fu',rfl,hf'⟩:=bB (show f<fu by omega)
  unfold lem
  by_cases e:cnt=most
  ·rw [if_pos e]
   simp only [k7,qT (show(cnt:Int)=(most:Int) by omega),bY]
  ·rw [if_neg e]
   have hcw:=h.hc
   have hr:=h.hr
   have hT:=hZ T b h.ti
   have ti':=h.ti.pivot h.hr (show c<2*n+2 by omega) h.hp
   have hT':=hZ _ _ ti'
   have p1:=aN9 hT h.hr (show c<2*n+2 by omega) hB (by omega) (by omega) (K:=K) (by omega)
   have hbr:=h.hb r h.hr
   have c1:aQ (2*(n:Int))=some (2*(n:Int)):=oX (by omega)
   have e4:mp (kX (fun i=>((b i:Nat):Int)) r (c:Int)) n=mp (fun i=>((kX b r c i:Nat):Int)) n:=gS fun i _=>by
    by_cases e:i=r
    ·rw [e,aT,aT]
    ·rw [bN e,bN e]
   simp only [k7,qF (show(cnt:Int)≠(most:Int) by omega),bU,p1,oB,sW (i:=cnt) (by omega),dW (f:=fun i=>((b i:Nat):Int)) hr,w6 (f:=fun i=>((b i:Nat):Int)) hr,e4,h1,c1]
   by_cases e2:b r=2*n
   ·rw [if_pos e2]
    have hb2:∀i,i<n→kX b r c i<2*n:=fun i hi=>by
     by_cases ei:i=r
     ·rw [ei,aT]
      have:=h.fst
      by_cases ec:c=2*n
      ·exact absurd e2 (this ec)
      ·omega
     ·rw [bN ei]
      have h5:=h.hb i hi
      by_cases e6:b i=2*n
      ·exact absurd (h.ti.inj hi hr (by rw [e6,e2])) ei
      ·omega
    have hs:=aFE (T:=sF T r c) h1 hb2 hn K n 0 K (by omega) (by omega)
    simp only [Int.natCast_zero] at hs
    have z1:mp (fun _=>(0:Rat)) n=mp (swv (sF T r c) (kX b r c) n 0) n:=rfl
    have hs':fX K a1 (mx (sF T r c) n (2*n+2)) (mp (fun i=>((kX b r c i:Nat):Int)) n) K (mp (fun _=>(0:Rat)) n) (mp (fun _=>(0:Rat)) n) 0=some (mp (swv (sF T r c) (kX b r c) n n) n,mp (szv (sF T r c) (kX b r c) n n) n):=hs
    simp only [qT (show((b r:Nat):Int)=2*(n:Int) by omega),bY,aFq (z:=(0:Rat)) (n:=n) (by omega),oB,hs',uY]
   ·rw [if_neg e2]
    have hlt:=aGW hbr e2
    have c2:aQ (((b r:Nat):Int)+(n:Int))=some ((b r+n:Nat):Int):=by rw [oX (by omega)];rfl
    have c3:zX ((b r+n:Nat):Int) (2*(n:Int))=some (((if b r<n then b r+n else b r-n:Nat)):Int):=by
     rw [tG (by omega) (by omega)]
     congr 1
     by_cases h3:b r<n
     ·rw [if_pos h3,Int.emod_eq_of_lt (by omega) (by omega)]
     ·rw [if_neg h3,show((b r+n:Nat):Int)=((b r-n:Nat):Int)+2*(n:Int) by omega,Int.add_emod_right,Int.emod_eq_of_lt (by omega) (by omega)]
    have hsel:=aFy h1 hT' (show(if b r<n then b r+n else b r-n)<2*n+2 by omega) hB hn (show 2000≤K by omega) n 0 K none (by omega) (by omega) (fun q hq=>by cases hq)
    simp only [Int.natCast_zero,show enc none=(-1:Int) from rfl] at hsel
    simp only [qF (show((b r:Nat):Int)≠2*(n:Int) by omega),bU,c2,oB,c3,hsel,u6]
    cases hs:sel (sF T r c) n (if b r<n then b r+n else b r-n) n 0 none with
    |none=>rfl
    |some r'=>
     simp only [enc,dF (show¬(r':Int)<0 by omega),bU]
     exact aQQ h1 hZ hB hn hm hK f (cnt+1) fu' _ _ r' _ (by omega) (by omega) (by omega) (h.next e2 hs)
end Go.Proofs.YtolfcbpgmfbgmaaGreat
set_option linter.unusedVariables false
namespace Go.Proofs.YtolfcbpgmfbgmaaGreat
theorem aHu {l:List Rat} {B:Nat} (hl:Bds B l) (hB:B≤1073741824) (hn:l.length≤1000) (K:Nat):∀(t i k:Nat),i+t=l.length→t<k→jJ K l k (i:Int)=some (.go ())
 |0,i,k,hi,hk=>by
  obtain⟨k',rfl,_⟩:=bB hk
  simp only [jJ,dF (show¬(i:Int)<(l.length:Int) by omega),bU]
 |t+1,i,k,hi,hk=>by
  obtain⟨k',rfl,_⟩:=bB hk
  simp only [jJ,dT (show(i:Int)<(l.length:Int) by omega),bY,aKQ (l:=l) (i:=i) (by omega),oB,aJU (hl _ (aCq (l:=l) (i:=i) (by omega))) hB,Bool.not_true,bU,sW (i:=i) (by omega)]
  exact aHu hl hB hn K t (i+1) k' (by omega) (by omega)
theorem aEE {l:List Rat} {B:Nat} (hl:Bds B l) (hB:B≤1073741824) (hn:l.length≤1000) {K:Nat} (hK:l.length<K):kB K l=some true:=by
 have:=aHu hl hB hn K l.length 0 K (by omega) hK
 simp only [Int.natCast_zero] at this
 simp only [kB,this,oB,qO]
theorem aF7 {l:List Rat} {B:Nat} (hl:Bds B l) (hB:B≤1073741824) (hn:l.length≤1000) (K:Nat):∀(t i k:Nat),i+t=l.length→t<k→mH K l k (i:Int)=some (.go ())
 |0,i,k,hi,hk=>by
  obtain⟨k',rfl,_⟩:=bB hk
  simp only [mH,dF (show¬(i:Int)<(l.length:Int) by omega),bU]
 |t+1,i,k,hi,hk=>by
  obtain⟨k',rfl,_⟩:=bB hk
  simp only [mH,dT (show(i:Int)<(l.length:Int) by omega),bY,aKQ (l:=l) (i:=i) (by omega),oB,aJU (hl _ (aCq (l:=l) (i:=i) (by omega))) hB,Bool.not_true,bU,sW (i:=i) (by omega)]
  exact aF7 hl hB hn K t (i+1) k' (by omega) (by omega)
theorem aFF {l:List Rat} {B:Nat} (hl:Bds B l) (hB:B≤1073741824) (hn:l.length≤1000) {K:Nat} (hK:l.length<K):sM K l=some true:=by
 have:=aF7 hl hB hn K l.length 0 K (by omega) hK
 simp only [Int.natCast_zero] at this
 simp only [sM,this,oB,wU]
theorem aFO {M:Nat→Nat→Rat} {q:Nat→Rat} {n B:Nat} (hM:vU n n B M) (hB:B≤1073741824) (hn:n≤32) {K:Nat} (hK:100≤K):∀(t i k:Nat),i+t=n→t<k→iP K (mx M n n) (mp q n) k (i:Int)=some (.go ())
 |0,i,k,hi,hk=>by
  obtain⟨k',rfl,_⟩:=bB hk
  simp only [iP,nG,dF (show¬(i:Int)<(n:Int) by omega),bU]
 |t+1,i,k,hi,hk=>by
  obtain⟨k',rfl,_⟩:=bB hk
  have hin:i<n:=by omega
  have g:=aEE (l:=mp (M i) n) (z5 fun c hc=>hM i c hin hc) hB (by rw [aZ];omega) (K:=K) (by rw [aZ];omega)
  simp only [iP,nG,dT (show(i:Int)<(n:Int) by omega),bY,xN (g:=M) (w:=n) hin,oB,aZ,nF (rfl:(n:Int)=(n:Int)),bU,g,Bool.not_true,sW (i:=i) (by omega)]
  exact aFO hM hB hn hK t (i+1) k' (by omega) (by omega)
theorem aBQ {M:Nat→Nat→Rat} {q:Nat→Rat} {n B:Nat} (hM:vU n n B M) (hq:∀i,i<n→Bd B (q i)) (hB:B≤1073741824) (hn:n≤32) {K:Nat} (hK:100≤K):iA K (mx M n n) (mp q n)=some true:=by
 have g:=aEE (l:=mp q n) (z5 hq) hB (by rw [aZ];omega) (K:=K) (by rw [aZ];omega)
 have e:=aFO (q:=q) hM hB hn hK n 0 K (by omega) (by omega)
 simp only [Int.natCast_zero] at e
 simp only [iA,nG,aZ,nF (rfl:(n:Int)=(n:Int)),bU,dF (show¬(32:Int)<(n:Int) by omega),g,oB,Bool.not_true,e,pW]
theorem aEN {M:Nat→Nat→Rat} {q:Nat→Rat} {n B:Nat} (hM:vU n n B M) (hB:B≤1073741824) (hn:n≤32) {K:Nat} (hK:100≤K):∀(t i k:Nat),i+t=n→t<k→lP K (mx M n n) (mp q n) k (i:Int)=some (.go ())
 |0,i,k,hi,hk=>by
  obtain⟨k',rfl,_⟩:=bB hk
  simp only [lP,nG,dF (show¬(i:Int)<(n:Int) by omega),bU]
 |t+1,i,k,hi,hk=>by
  obtain⟨k',rfl,_⟩:=bB hk
  have hin:i<n:=by omega
  have g:=aFF (l:=mp (M i) n) (z5 fun c hc=>hM i c hin hc) hB (by rw [aZ];omega) (K:=K) (by rw [aZ];omega)
  simp only [lP,nG,dT (show(i:Int)<(n:Int) by omega),bY,xN (g:=M) (w:=n) hin,oB,aZ,nF (rfl:(n:Int)=(n:Int)),bU,g,Bool.not_true,sW (i:=i) (by omega)]
  exact aEN hM hB hn hK t (i+1) k' (by omega) (by omega)
theorem aFk {M:Nat→Nat→Rat} {q:Nat→Rat} {n B:Nat} (hM:vU n n B M) (hq:∀i,i<n→Bd B (q i)) (hB:B≤1073741824) (hn:n≤32) {K:Nat} (hK:100≤K):uN K (mx M n n) (mp q n)=some true:=by
 have g:=aFF (l:=mp q n) (z5 hq) hB (by rw [aZ];omega) (K:=K) (by rw [aZ];omega)
 have e:=aEN (q:=q) hM hB hn hK n 0 K (by omega) (by omega)
 simp only [Int.natCast_zero] at e
 simp only [uN,nG,aZ,nF (rfl:(n:Int)=(n:Int)),bU,dF (show¬(32:Int)<(n:Int) by omega),g,oB,Bool.not_true,e,wC]
def ng (q:Nat→Rat):Nat→Nat→Bool
 |0,_=>false
 |t+1,i=>bif decide ((q i).num.sign<0) then true else ng q t (i+1)
theorem aMq {q:Nat→Rat} {n B:Nat} (hq:∀i,i<n→Bd B (q i)) (hB:B≤1073741824) (hn:n≤1000) (K:Nat):∀(t i k:Nat),i+t=n→t<k→fV K (mp q n) k (i:Int)=some (bif ng q t i then .ret true else .go ())
 |0,i,k,hi,hk=>by
  obtain⟨k',rfl,_⟩:=bB hk
  simp only [fV,aZ,dF (show¬(i:Int)<(n:Int) by omega),bU,ng]
 |t+1,i,k,hi,hk=>by
  obtain⟨k',rfl,_⟩:=bB hk
  have hin:i<n:=by omega
  simp only [fV,aZ,dT (show(i:Int)<(n:Int) by omega),bY,dW (f:=q) hin,oB,uJ (hq i hin) hB,ng]
  by_cases h:(q i).num.sign<0
  ·simp only [dT h,bY]
  ·simp only [dF h,bU,sW (i:=i) (by omega),oB]
   exact aMq hq hB hn K t (i+1) k' (by omega) (by omega)
theorem aKJ {q:Nat→Rat} {n B:Nat} (hq:∀i,i<n→Bd B (q i)) (hB:B≤1073741824) (hn:n≤1000) (K:Nat):∀(t i k:Nat),i+t=n→t<k→jO K (mp q n) k (i:Int)=some (bif ng q t i then .ret true else .go ())
 |0,i,k,hi,hk=>by
  obtain⟨k',rfl,_⟩:=bB hk
  simp only [jO,aZ,dF (show¬(i:Int)<(n:Int) by omega),bU,ng]
 |t+1,i,k,hi,hk=>by
  obtain⟨k',rfl,_⟩:=bB hk
  have hin:i<n:=by omega
  simp only [jO,aZ,dT (show(i:Int)<(n:Int) by omega),bY,dW (f:=q) hin,oB,uJ (hq i hin) hB,ng]
  by_cases h:(q i).num.sign<0
  ·simp only [dT h,bY]
  ·simp only [dF h,bU,sW (i:=i) (by omega),oB]
   exact aKJ hq hB hn K t (i+1) k' (by omega) (by omega)
theorem aI5 {q:Nat→Rat} {n B:Nat} (hq:∀i,i<n→Bd B (q i)) (hB:B≤1073741824) (hn:n≤1000) {K:Nat} (hK:n<K):gC K (mp q n)=some (ng q n 0)∧sK K (mp q n)=some (ng q n 0):=by
 have e1:=aMq hq hB hn K n 0 K (by omega) hK
 have e2:=aKJ hq hB hn K n 0 K (by omega) hK
 simp only [Int.natCast_zero] at e1 e2
 constructor
 ·simp only [gC,e1,oB,m8]
  cases ng q n 0<;>rfl
 ·simp only [sK,e2,oB,uM]
  cases ng q n 0<;>rfl
def rw1 (M:Nat→Nat→Rat) (n i k c:Nat):Rat:=if n≤c∧c<n+k then -(M i (c-n)) else kX z0 i 1 c
theorem aIm {M:Nat→Nat→Rat} {n i k:Nat} (hi:i<n):mp (kX (rw1 M n i k) (n+k) (-(M i k))) (2*n+2)=mp (rw1 M n i (k+1)) (2*n+2):=gS fun c _=>by
 by_cases e:c=n+k
 ·subst e;rw [aT];unfold rw1;rw [if_pos ⟨by omega,by omega⟩,Nat.add_sub_cancel_left]
 ·rw [bN e];unfold rw1
  by_cases h:n≤c∧c<n+k
  ·rw [if_pos h,if_pos ⟨h.1,by omega⟩]
  ·rw [if_neg h,if_neg (by omega)]
theorem aJG {M:Nat→Nat→Rat} {q:Nat→Rat} {n i:Nat} (hi:i<n):mp (kX (kX (rw1 M n i n) (2*n) (-1)) (2*n+1) (q i)) (2*n+2)=mp (yC M q n i) (2*n+2):=gS fun c hc=>by
 unfold yC
 by_cases e1:c=2*n+1
 ·subst e1;rw [aT,if_neg (by omega),if_neg (by omega),if_neg (by omega)]
 ·rw [bN e1]
  by_cases e2:c=2*n
  ·subst e2;rw [aT,if_neg (by omega),if_neg (by omega),if_pos rfl]
  ·rw [bN e2]
   unfold rw1
   by_cases h:c<n
   ·rw [if_neg (by omega),if_pos h]
    by_cases e3:c=i
    ·subst e3;rw [aT,if_pos rfl]
    ·rw [bN e3,if_neg (fun e=>e3 e.symm)];rfl
   ·rw [if_pos ⟨by omega,by omega⟩,if_neg h,if_pos (by omega)]
theorem aJ8 {M:Nat→Nat→Rat} {q:Nat→Rat} {n i B:Nat} (hM:vU n n B M) (hB:B≤1073741824) (hi:i<n) (hn:n≤1000) (K:Nat):∀(t k fu:Nat),k+t=n→t<fu→eO K (mx M n n) (mp q n) (i:Int) fu (mp (rw1 M n i k) (2*n+2)) (k:Int)=some (mp (rw1 M n i n) (2*n+2))
 |0,k,fu,hk,hf=>by
  obtain⟨fu',rfl,_⟩:=bB hf
  have e:k=n:=by omega
  subst e
  simp only [eO,aZ,dF (show¬(k:Int)<(k:Int) by omega),bU]
 |t+1,k,fu,hk,hf=>by
  obtain⟨fu',rfl,_⟩:=bB hf
  have hkn:k<n:=by omega
  have c1:aQ ((n:Int)+(k:Int))=some ((n+k:Nat):Int):=by rw [oX (by omega)];rfl
  simp only [eO,aZ,dT (show(k:Int)<(n:Int) by omega),bY,c1,oB,xN (g:=M) (w:=n) hi,dW (f:=M i) hkn,aBU (hM i k hi hkn) hB,dW (f:=rw1 M n i k) (n:=2*n+2) (i:=n+k) (by omega),w6 (f:=rw1 M n i k) (n:=2*n+2) (i:=n+k) (by omega),aIm hi,sW (i:=k) (by omega)]
  exact aJ8 hM hB hi hn K t (k+1) fu' (by omega) (by omega)
theorem aH8 {M:Nat→Nat→Rat} {q:Nat→Rat} {n i B:Nat} (hM:vU n n B M) (hB:B≤1073741824) (hi:i<n) (hn:n≤1000) (K:Nat):∀(t k fu:Nat),k+t=n→t<fu→kI K (mx M n n) (mp q n) (i:Int) fu (mp (rw1 M n i k) (2*n+2)) (k:Int)=some (mp (rw1 M n i n) (2*n+2))
 |0,k,fu,hk,hf=>by
  obtain⟨fu',rfl,_⟩:=bB hf
  have e:k=n:=by omega
  subst e
  simp only [kI,aZ,dF (show¬(k:Int)<(k:Int) by omega),bU]
 |t+1,k,fu,hk,hf=>by
  obtain⟨fu',rfl,_⟩:=bB hf
  have hkn:k<n:=by omega
  have c1:aQ ((n:Int)+(k:Int))=some ((n+k:Nat):Int):=by rw [oX (by omega)];rfl
  simp only [kI,aZ,dT (show(k:Int)<(n:Int) by omega),bY,c1,oB,xN (g:=M) (w:=n) hi,dW (f:=M i) hkn,aBU (hM i k hi hkn) hB,dW (f:=rw1 M n i k) (n:=2*n+2) (i:=n+k) (by omega),w6 (f:=rw1 M n i k) (n:=2*n+2) (i:=n+k) (by omega),aIm hi,sW (i:=k) (by omega)]
  exact aH8 hM hB hi hn K t (k+1) fu' (by omega) (by omega)
theorem aR1:qof (-1) 1=some (-1):=by
 rw [aG0 (by omega) (by omega)]
 exact congrArg some (by decide+kernel)
theorem aM4 {M:Nat→Nat→Rat} {q:Nat→Rat} {n B:Nat} (hM:vU n n B M) (hB:B≤1073741824) (hn:n≤1000) {K:Nat} (hK:n<K):∀(t i fu:Nat),i+t=n→t<fu→dM K (mx M n n) (mp q n) fu (mp (fun j=>((j:Nat):Int)) i) (mp (fun j=>j) i) (mx (yC M q n) i (2*n+2)) (i:Int)=some (mp (fun j=>((j:Nat):Int)) n,mp (fun j=>j) n,mx (yC M q n) n (2*n+2))
 |0,i,fu,hi,hf=>by
  obtain⟨fu',rfl,_⟩:=bB hf
  have e:i=n:=by omega
  subst e
  simp only [dM,aZ,dF (show¬(i:Int)<(i:Int) by omega),bU]
 |t+1,i,fu,hi,hf=>by
  obtain⟨fu',rfl,_⟩:=bB hf
  have hin:i<n:=by omega
  have c1:aQ (2*(n:Int))=some ((2*n:Nat):Int):=by rw [oX (by omega)];rfl
  have c2:aQ (((2*n:Nat):Int)+2)=some ((2*n+2:Nat):Int):=by rw [oX (by omega)];rfl
  have c3:aQ (((2*n:Nat):Int)+1)=some ((2*n+1:Nat):Int):=by rw [oX (by omega)];rfl
  have e116:=aJ8 (q:=q) hM hB hin hn K n 0 K (by omega) hK
  have e0:mp (rw1 M n i 0) (2*n+2)=mp (kX z0 i 1) (2*n+2):=gS fun c _=>if_neg (by omega)
  rw [e0] at e116
  simp only [Int.natCast_zero] at e116
  have a1:rM (mp (fun j=>j) i) [i]=some (mp (fun j=>j) (i+1)):=apM (g:=fun j=>j) (by omega)
  have a2:rM (mp (fun j=>((j:Nat):Int)) i) [(i:Int)]=some (mp (fun j=>((j:Nat):Int)) (i+1)):=apM (g:=fun j=>((j:Nat):Int)) (by omega)
  have a3:mx (yC M q n) i (2*n+2)++[mp (yC M q n i) (2*n+2)]=mx (yC M q n) (i+1) (2*n+2):=(aBW (fun i=>mp (yC M q n i) (2*n+2)) i).symm
  simp only [dM,aZ,dT (show(i:Int)<(n:Int) by omega),bY,c1,c2,aFq (z:=(0:Rat)) (n:=2*n+2) (by omega),aMw,oB,dW (f:=fun _=>(0:Rat)) (n:=2*n+2) (i:=i) (by omega),w6 (f:=fun _=>(0:Rat)) (n:=2*n+2) (i:=i) (by omega),show kX (fun _=>(0:Rat)) i 1=kX z0 i 1 from rfl,e116,lM,aR1,dW (f:=rw1 M n i n) (n:=2*n+2) (i:=2*n) (by omega),w6 (f:=rw1 M n i n) (n:=2*n+2) (i:=2*n) (by omega),c3,dW (f:=q) hin,dW (f:=kX (rw1 M n i n) (2*n) (-1)) (n:=2*n+2) (i:=2*n+1) (by omega),w6 (f:=kX (rw1 M n i n) (2*n) (-1)) (n:=2*n+2) (i:=2*n+1) (by omega),aJG hin,nG,a1,a2,a3,sW (i:=i) (by omega)]
  exact aM4 hM hB hn hK t (i+1) fu' (by omega) (by omega)
theorem aKr {M:Nat→Nat→Rat} {q:Nat→Rat} {n B:Nat} (hM:vU n n B M) (hB:B≤1073741824) (hn:n≤1000) {K:Nat} (hK:n<K):∀(t i fu:Nat),i+t=n→t<fu→lC K (mx M n n) (mp q n) 1 fu (mp (fun j=>((j:Nat):Int)) i) (mx (yC M q n) i (2*n+2)) (i:Int)=some (mp (fun j=>((j:Nat):Int)) n,mx (yC M q n) n (2*n+2))
 |0,i,fu,hi,hf=>by
  obtain⟨fu',rfl,_⟩:=bB hf
  have e:i=n:=by omega
  subst e
  simp only [lC,aZ,dF (show¬(i:Int)<(i:Int) by omega),bU]
 |t+1,i,fu,hi,hf=>by
  obtain⟨fu',rfl,_⟩:=bB hf
  have hin:i<n:=by omega
  have c1:aQ (2*(n:Int))=some ((2*n:Nat):Int):=by rw [oX (by omega)];rfl
  have c2:aQ (((2*n:Nat):Int)+2)=some ((2*n+2:Nat):Int):=by rw [oX (by omega)];rfl
  have c3:aQ (((2*n:Nat):Int)+1)=some ((2*n+1:Nat):Int):=by rw [oX (by omega)];rfl
  have e318:=aH8 (q:=q) hM hB hin hn K n 0 K (by omega) hK
  have e0:mp (rw1 M n i 0) (2*n+2)=mp (kX z0 i 1) (2*n+2):=gS fun c _=>if_neg (by omega)
  rw [e0] at e318
  simp only [Int.natCast_zero] at e318
  have a2:rM (mp (fun j=>((j:Nat):Int)) i) [(i:Int)]=some (mp (fun j=>((j:Nat):Int)) (i+1)):=apM (g:=fun j=>((j:Nat):Int)) (by omega)
  have a3:rM (mx (yC M q n) i (2*n+2)) [mp (yC M q n i) (2*n+2)]=some (mx (yC M q n) (i+1) (2*n+2)):=apM (g:=fun i=>mp (yC M q n i) (2*n+2)) (by omega)
  simp only [lC,aZ,dT (show(i:Int)<(n:Int) by omega),bY,c1,c2,aFq (z:=(0:Rat)) (n:=2*n+2) (by omega),oB,dW (f:=fun _=>(0:Rat)) (n:=2*n+2) (i:=i) (by omega),w6 (f:=fun _=>(0:Rat)) (n:=2*n+2) (i:=i) (by omega),show kX (fun _=>(0:Rat)) i 1=kX z0 i 1 from rfl,e318,uW,aR1,dW (f:=rw1 M n i n) (n:=2*n+2) (i:=2*n) (by omega),w6 (f:=rw1 M n i n) (n:=2*n+2) (i:=2*n) (by omega),c3,dW (f:=q) hin,dW (f:=kX (rw1 M n i n) (2*n) (-1)) (n:=2*n+2) (i:=2*n+1) (by omega),w6 (f:=kX (rw1 M n i n) (2*n) (-1)) (n:=2*n+2) (i:=2*n+1) (by omega),aJG hin,a2,a3,sW (i:=i) (by omega)]
  exact aKr hM hB hn hK t (i+1) fu' (by omega) (by omega)
end Go.Proofs.YtolfcbpgmfbgmaaGreat
set_option linter.unusedVariables false
namespace Go.Proofs.YtolfcbpgmfbgmaaGreat
theorem aKI {T:Nat→Nat→Rat} {n i:Nat} {c:Rat}:∀t j,lx T n i c i c t j=false
 |0,_=>rfl
 |t+1,j=>by unfold lx;rw [decide_eq_true (rfl:T i (lH n j)/c=T i (lH n j)/c),bY];exact aKI t (j+1)
def zE (T:Nat→Nat→Rat) (n:Nat):Nat→Nat→Nat→Nat
 |0,_,r=>r
 |t+1,i,r=>bif les T n i 1 r 1 then zE T n t (i+1) i else zE T n t (i+1) r
theorem aBB {T:Nat→Nat→Rat} {n:Nat}:∀t i r,r<n→i+t≤n→zE T n t i r<n
 |0,i,r,hr,_=>hr
 |t+1,i,r,hr,h=>by
  unfold zE
  cases les T n i 1 r 1
  ·exact aBB t (i+1) r hr (by omega)
  ·exact aBB t (i+1) i (by omega) (by omega)
theorem aMZ {n B:Nat} {rs:List (List Rat)} {od:Nat→Nat} {T:Nat→Nat→Rat} {bs:List Int} (h:aAK n (2*n+2) rs od T) (hT:vU n (2*n+2) B T) (hB:B≤200000000) (hn:n≤1000) {K:Nat} (hK:2000≤K):∀(t i fu r:Nat),i+t=n→t<fu→r<n→fP K ((n:Int),mp od n,bs,rs) 1 fu (r:Int) (i:Int)=some ((zE T n t i r:Nat):Int)
 |0,i,fu,r,hi,hf,hr=>by
  obtain⟨fu',rfl,_⟩:=bB hf
  simp only [fP,dF (show¬(i:Int)<(n:Int) by omega),bU,zE]
 |t+1,i,fu,r,hi,hf,hr=>by
  obtain⟨fu',rfl,_⟩:=bB hf
  have hin:i<n:=by omega
  simp only [fP,dT (show(i:Int)<(n:Int) by omega),bY,aHT (a6:=bs) h hT hin hr aDK aDK (show B+8≤500000000 by omega) hn hK,oB,sW (i:=i) (by omega),zE]
  cases les T n i 1 r 1
  ·simp only [bU];exact aMZ h hT hB hn hK t (i+1) fu' r (by omega) (by omega) hr
  ·simp only [bY];exact aMZ h hT hB hn hK t (i+1) fu' i (by omega) (by omega) hin
theorem aLz {n B:Nat} {T:Nat→Nat→Rat} {a1:List Rat} (h1:a1.length=n) (hT:vU n (2*n+2) B T) (hB:B≤200000000) (hn:n≤1000) {K:Nat} (hK:2000≤K):∀(t i fu r:Nat),i+t=n→t<fu→r<n→iX K a1 1 (mx T n (2*n+2)) fu (r:Int) (i:Int)=some ((zE T n t i r:Nat):Int)
 |0,i,fu,r,hi,hf,hr=>by
  obtain⟨fu',rfl,_⟩:=bB hf
  simp only [iX,h1,dF (show¬(i:Int)<(n:Int) by omega),bU,zE]
 |t+1,i,fu,r,hi,hf,hr=>by
  obtain⟨fu',rfl,_⟩:=bB hf
  have hin:i<n:=by omega
  simp only [iX,h1,dT (show(i:Int)<(n:Int) by omega),bY,xN (g:=T) (w:=2*n+2) hin,xN (g:=T) (w:=2*n+2) hr,oB,aGP hT hin aDK (by omega) (by omega) hn hK,aGP hT hr aDK (by omega) (by omega) hn hK,aFH hT hin hr aDK aDK (show B+8≤500000000 by omega) hn hK,sW (i:=i) (by omega),zE]
  cases les T n i 1 r 1
  ·simp only [bU];exact aLz h1 hT hB hn hK t (i+1) fu' r (by omega) (by omega) hr
  ·simp only [bY];exact aLz h1 hT hB hn hK t (i+1) fu' i (by omega) (by omega) hin
theorem aEf {q:Nat→Rat} {n:Nat} (h:ng q n 0=true):0<n:=by
 cases n with
 |zero=>exact absurd (show false=true from h) (by decide)
 |succ m=>exact Nat.succ_pos m
def w9 (M:Nat→Nat→Rat) (q:Nat→Rat) (n most:Nat):aL×Int:=
 bif ng q n 0 then lem n most (most+1) (yC M q n) (fun j=>j) (zE (yC M q n) n n 0 0) (2*n) 0 else(⟨mp z0 n,mp q n,0⟩,0)
theorem aIQ {M:Nat→Nat→Rat} {q:Nat→Rat} {n r:Nat} (hr:r<n):LI n (yC M q n) (yC M q n) (fun j=>j) r (2*n):=by
 refine⟨aNg,hr,Nat.le_refl _,?_,fun j hj=>by omega,fun _=>by omega⟩
 unfold yC
 rw [if_neg (by omega),if_neg (by omega),if_pos rfl];decide
theorem aGs {T:Nat→Nat→Rat} {n w:Nat}:aAK n w (mx T n w) (fun j=>j) T:=
 ⟨fun i hi=>by rw [nG];exact hi,fun i j _ _ e=>e,fun i hi=>by unfold mx;rw [List.getD_eq_getElem?_getD,xV hi];rfl⟩
theorem aMF {M:Nat→Nat→Rat} {q:Nat→Rat} {n:Nat}:∀i,i≤n→swv (yC M q n) (fun j=>j) n i=(fun j=>if j<i then q j else 0)∧szv (yC M q n) (fun j=>j) n i=z0
 |0,_=>⟨funext fun j=>by show(0:Rat)=_;rw [if_neg (show¬j<0 by omega)],rfl⟩
 |i+1,h=>by
  obtain⟨e1,e2⟩:=aMF (M:=M) (q:=q) (n:=n) i (by omega)
  have e3:yC M q n i (2*n+1)=q i:=by unfold yC;rw [if_neg (show¬2*n+1<n by omega),if_neg (show¬2*n+1<2*n by omega),if_neg (show¬2*n+1=2*n by omega)]
  unfold swv szv
  rw [if_pos (show i<n by omega),if_pos (show i<n by omega),e1,e2,e3]
  refine⟨funext fun j=>?_,rfl⟩
  by_cases e:j=i
  ·subst e;rw [aT,if_pos (by omega)]
  ·rw [bN e]
   by_cases e4:j<i
   ·rw [if_pos e4,if_pos (by omega)]
   ·rw [if_neg e4,if_neg (by omega)]
theorem aDG {M:Nat→Nat→Rat} {q:Nat→Rat} {n B most:Nat} (hM:vU n n B M) (hq:∀i,i<n→Bd B (q i)) (hZ:Sm n B (yC M q n)) (hB:B≤200000000) (hn:n≤32) (hm:most≤100000) {K:Nat} (hK:5000≤K) (hK2:most<K):
  eN K (mx M n n) (mp q n) (most:Int)=some (w9 M q n most)∧uQ K (mx M n n) (mp q n) (most:Int)=some (w9 M q n most):=by
 have hng:=aI5 hq (by omega) (show n≤1000 by omega) (show n<K by omega)
 have hT:=hZ _ _ aNg
 have s1:=aM4 (q:=q) hM (by omega) (show n≤1000 by omega) (show n<K by omega) n 0 K (by omega) (by omega)
 have s2:=aKr (q:=q) hM (by omega) (show n≤1000 by omega) (show n<K by omega) n 0 K (by omega) (by omega)
 have z1:mp (fun j=>((j:Nat):Int)) 0=[]:=rfl
 have z2:mp (fun j:Nat=>j) 0=[]:=rfl
 have z3:mx (yC M q n) 0 (2*n+2)=[]:=rfl
 simp only [Int.natCast_zero,z1,z2,z3] at s1 s2
 have st:mL K (mx M n n) (mp q n)=some ((n:Int),mp (fun j=>j) n,mp (fun j=>((j:Nat):Int)) n,mx (yC M q n) n (2*n+2)):=by
  simp only [mL,s1,oB,mB,aZ]
 have c1:aQ (2*(n:Int))=some ((2*n:Nat):Int):=by rw [oX (by omega)];rfl
 by_cases hneg:ng q n 0=true
 ·have hn0:=aEf hneg
  have hr:=aBB (T:=yC M q n) n 0 0 hn0 (by omega)
  have l1:=aMZ (bs:=mp (fun j=>((j:Nat):Int)) n) (aGs (T:=yC M q n)) hT hB (show n≤1000 by omega) (show 2000≤K by omega) n 0 K 0 (by omega) (by omega) hn0
  have l2:=aLz (a1:=mp q n) (aZ _ _) hT hB (show n≤1000 by omega) (show 2000≤K by omega) (n-1) 1 K 0 (by omega) (by omega) hn0
  have e0:zE (yC M q n) n (n-1) 1 0=zE (yC M q n) n n 0 0:=by
   obtain⟨m,rfl⟩:∃m,n=m+1:=⟨n-1,by omega⟩
   have e:les (yC M q (m+1)) (m+1) 0 1 0 1=false:=aKI _ _
   have e2:zE (yC M q (m+1)) (m+1) (m+1) 0 0=bif les (yC M q (m+1)) (m+1) 0 1 0 1 then zE (yC M q (m+1)) (m+1) m 1 0 else zE (yC M q (m+1)) (m+1) m 1 0:=rfl
   rw [e2,e,bU];rfl
  rw [e0] at l2
  simp only [Int.natCast_zero,Int.natCast_one] at l1 l2
  have r1:=aQ1 (v6:=((n:Int),mp (fun j=>j) n,mp (fun j=>((j:Nat):Int)) n,mx (yC M q n) n (2*n+2))) rfl hZ hB (show n≤1000 by omega) hm hK (most+1) 0 K _ _ _ _ _ _ (by omega) (by omega) (by omega) aGs (aIQ (M:=M) (q:=q) hr)
  have r2:=aQQ (a1:=mp q n) (aZ _ _) hZ hB (show n≤1000 by omega) hm hK (most+1) 0 K _ _ _ _ (by omega) (by omega) (by omega) (aIQ (M:=M) (q:=q) hr)
  simp only [Int.natCast_zero] at r1 r2
  constructor
  ·simp only [eN,aBQ hM hq (show B≤1073741824 by omega) hn (show 100≤K by omega),oB,Bool.not_true,bU,dF (show¬(most:Int)<0 by omega),st,hng.1,hneg,aMw,l1,oV,c1,r1,w9,bY]
  ·simp only [uQ,aFk hM hq (show B≤1073741824 by omega) hn (show 100≤K by omega),oB,Bool.not_true,bU,dF (show¬(most:Int)<0 by omega),hng.2,hneg,aMw,s2,vQ,l2,vL,aZ,c1,r2,w9,bY]
 ·have hneg':ng q n 0=false:=by cases h:ng q n 0 with|true=>exact absurd h hneg|false=>rfl
  obtain⟨e1,e2⟩:=aMF (M:=M) (q:=q) (n:=n) n (Nat.le_refl _)
  have ps:=aKn (b:=fun j=>j) (aGs (T:=yC M q n) (n:=n) (w:=2*n+2)) (show n≤1000 by omega) (show 2000≤K by omega)
  rw [e1,e2,gS (f:=fun j=>if j<n then q j else 0) (g:=q) fun i hi=>if_pos hi] at ps
  constructor
  ·simp only [eN,aBQ hM hq (show B≤1073741824 by omega) hn (show 100≤K by omega),oB,Bool.not_true,bU,dF (show¬(most:Int)<0 by omega),st,hng.1,hneg',Bool.not_false,bY,ps,w9]
  ·simp only [uQ,aFk hM hq (show B≤1073741824 by omega) hn (show 100≤K by omega),oB,Bool.not_true,bU,dF (show¬(most:Int)<0 by omega),hng.2,hneg',Bool.not_false,bY,aZ,aFq (z:=(0:Rat)) (n:=n) (by omega),w9]
   rfl
end Go.Proofs.YtolfcbpgmfbgmaaGreat
set_option linter.unusedVariables false
namespace Go.Proofs.YtolfcbpgmfbgmaaGreat
end Go.Proofs.YtolfcbpgmfbgmaaGreat
set_option linter.unusedVariables false
namespace Go.Proofs.YtolfcbpgmfbgmaaGreat
end Go.Proofs.YtolfcbpgmfbgmaaGreat
set_option linter.unusedVariables false
namespace Go.Proofs.YtolfcbpgmfbgmaaGreat
theorem aNb {n B:Nat} {T:Nat→Nat→Rat} {b:Nat→Nat} (hT:vU n (2*n+2) B T) (hB:1≤B):∀i,i≤n→∀j,Bd B (szv T b n i j)
 |0,_,j=>Bd.zero.mono hB
 |i+1,h,j=>by
  have ih:=aNb (b:=b) hT hB i (by omega)
  unfold szv
  split
  ·exact ih j
  ·split
   ·by_cases e:j=b i-n
    ·subst e;rw [aT];exact hT i _ (by omega) (by omega)
    ·rw [bN e];exact ih j
   ·exact ih j
theorem aPb {n most B:Nat} {Z:Nat→Nat→Rat} (hZ:Sm n B Z) (hB:1≤B):∀(f:Nat) (T:Nat→Nat→Rat) (b:Nat→Nat) (r c cnt:Nat),LI n Z T b r c→(lem n most f T b r c cnt).2=0→(lem n most f T b r c cnt).1.z.length=n∧Bds B (lem n most f T b r c cnt).1.z
 |0,T,b,r,c,cnt,h,h0=>absurd (show(16:Int)=0 from h0) (by decide)
 |f+1,T,b,r,c,cnt,h,h0=>by
  unfold lem at h0 ⊢
  by_cases e:cnt=most
  ·rw [if_pos e] at h0;exact absurd h0 (by decide)
  ·rw [if_neg e] at h0 ⊢
   have hcw:=h.hc
   by_cases e2:b r=2*n
   ·rw [if_pos e2]
    have ti':=h.ti.pivot h.hr (show c<2*n+2 by omega) h.hp
    exact⟨aZ _ _,z5 fun j _=>aNb (hZ _ _ ti') hB n (Nat.le_refl _) j⟩
   ·rw [if_neg e2] at h0 ⊢
    cases hs:sel (sF T r c) n (if b r<n then b r+n else b r-n) n 0 none with
    |none=>rw [hs] at h0;exact absurd (show(15:Int)=0 from h0) (by decide)
    |some r'=>
     rw [hs] at h0
     exact aPb hZ hB f _ _ _ _ _ (h.next e2 hs) h0
theorem aQo {M:Nat→Nat→Rat} {q:Nat→Rat} {n B most:Nat} (hZ:Sm n B (yC M q n)) (hB:1≤B) (h0:(w9 M q n most).2=0):(w9 M q n most).1.z.length=n∧Bds B (w9 M q n most).1.z:=by
 unfold w9 at h0 ⊢
 by_cases hneg:ng q n 0=true
 ·rw [hneg,bY] at h0 ⊢
  exact aPb hZ hB _ _ _ _ _ _ (aIQ (aBB n 0 0 (aEf hneg) (by omega))) h0
 ·have hneg':ng q n 0=false:=by cases h:ng q n 0 with|true=>exact absurd h hneg|false=>rfl
  rw [hneg',bU]
  exact⟨aZ _ _,z5 fun j _=>Bd.zero.mono hB⟩
theorem pw4 {D k m:Nat} (h:D≤2^k) (e:4*k+56=m):64*(2^50*(D*D*D*D))≤2^m:=by
 have e2:=Nat.mul_le_mul (Nat.mul_le_mul (Nat.mul_le_mul h h) h) h
 rw [←Nat.pow_add,←Nat.pow_add,←Nat.pow_add] at e2
 have e3:=Nat.mul_le_mul (Nat.le_refl (2^6)) (Nat.mul_le_mul (Nat.le_refl (2^50)) e2)
 rw [←Nat.pow_add,←Nat.pow_add] at e3
 rw [show m=6+(50+(k+k+k+k)) by omega]
 exact e3
theorem pw8 {D k m:Nat} (h:D≤256^k) (e:8*k=m):D≤2^m:=by
 rw [show(256:Nat)=2^8 from rfl,←Nat.pow_mul,e] at h;exact h
theorem pwn {x k m n:Nat} (h:x≤2^k) (e:k*n<m):x^n<2^m:=by
 refine Nat.lt_of_le_of_lt (Nat.pow_le_pow_left h n) ?_
 rw [←Nat.pow_mul]
 exact Nat.pow_lt_pow_right (by decide) e
theorem sizes {D n sz:Nat} (hs:sz=100000) (hD:D≤256^149) (hn:n≤20):(64*(2^50*(D*D*D*D)))^n<2^sz:=
 pwn (pw4 (pw8 hD (m:=1192) (by decide)) (m:=4824) (by decide)) (by omega)
end Go.Proofs.YtolfcbpgmfbgmaaGreat
set_option linter.unusedVariables false
namespace Go.Proofs.YtolfcbpgmfbgmaaGreat
end Go.Proofs.YtolfcbpgmfbgmaaGreat
set_option linter.unusedVariables false
namespace Go.Proofs.YtolfcbpgmfbgmaaGreat
end Go.Proofs.YtolfcbpgmfbgmaaGreat
set_option linter.unusedVariables false
namespace Go.Proofs.YtolfcbpgmfbgmaaGreat
end Go.Proofs.YtolfcbpgmfbgmaaGreat
set_option linter.unusedVariables false
namespace Go.Proofs.YtolfcbpgmfbgmaaGreat
/-- The last column multiplied. -/
def scl (n:Nat) (c:Rat) (T:Nat→Nat→Rat) (i k:Nat):Rat:=if 2*n<k then c*T i k else T i k
theorem zY {n i k:Nat} {c:Rat} {T:Nat→Nat→Rat} (h:k≤2*n):scl n c T i k=T i k:=if_neg (by omega)
theorem aEr {n i k:Nat} {c:Rat} {T:Nat→Nat→Rat} (h:2*n<k):scl n c T i k=c*T i k:=if_pos h
theorem aCV {n i:Nat} {c:Rat} {T:Nat→Nat→Rat}:scl n c T i (2*n+1)=c*T i (2*n+1):=aEr (by omega)
theorem aNC {n r j:Nat} {c:Rat} {T:Nat→Nat→Rat} (h:j≤2*n):sF (scl n c T) r j=scl n c (sF T r j):=by
 funext i k
 unfold sF
 rw [zY h,zY h]
 by_cases e:k≤2*n
 ·rw [zY e,zY e,zY e]
 ·rw [aEr (by omega),aEr (by omega),aEr (by omega)]
  by_cases e2:i=r
  ·rw [if_pos e2,if_pos e2];grind
  ·rw [if_neg e2,if_neg e2];grind
theorem zK {c x y:Rat} (hc:0<c):(c*x<c*y)↔x<y:=by
 constructor
 ·intro h
  by_cases h1:x<y
  ·exact h1
  ·exact absurd h (Rat.not_lt.2 (Rat.mul_le_mul_of_nonneg_left (Rat.not_lt.1 h1) (Rat.le_of_lt hc)))
 ·intro h
  exact Rat.mul_lt_mul_of_pos_left h hc
theorem aMl {n i k:Nat} {c a b:Rat} {T:Nat→Nat→Rat} (hc:0<c):∀t j,j+t≤n+1→lx (scl n c T) n i a k b t j=lx T n i a k b t j
 |0,_,_=>rfl
 |t+1,j,h=>by
  unfold lx
  rw [aMl hc t (j+1) (by omega)]
  by_cases e:j=0
  ·subst e
   have e1:lH n 0=2*n+1:=rfl
   rw [e1,aCV,aCV]
   have h1:(c*T i (2*n+1)/a=c*T k (2*n+1)/b)↔(T i (2*n+1)/a=T k (2*n+1)/b):=by grind
   have h2:(c*T i (2*n+1)/a<c*T k (2*n+1)/b)↔(T i (2*n+1)/a<T k (2*n+1)/b):=by
    rw [show c*T i (2*n+1)/a=c*(T i (2*n+1)/a) by grind,show c*T k (2*n+1)/b=c*(T k (2*n+1)/b) by grind]
    exact zK hc
   rw [decide_eq_decide.2 h1,decide_eq_decide.2 h2]
  ·have e1:lH n j≤2*n:=by unfold lH;rw [if_neg e];omega
   rw [zY e1,zY e1]
theorem aJT {n i k:Nat} {c a b:Rat} {T:Nat→Nat→Rat} (hc:0<c):les (scl n c T) n i a k b=les T n i a k b:=aMl hc _ _ (by omega)
theorem aD4 {n j:Nat} {c:Rat} {T:Nat→Nat→Rat} (hc:0<c) (h:j≤2*n):∀t i s,sel (scl n c T) n j t i s=sel T n j t i s
 |0,_,_=>rfl
 |t+1,i,s=>by
  unfold sel
  rw [zY h,aD4 hc h t]
  cases s with
  |none=>simp only [aD4 hc h t]
  |some r=>simp only [zY h,aJT hc,aD4 hc h t]
theorem aFe {n:Nat} {c:Rat} {T:Nat→Nat→Rat} (hc:0<c):∀t i r,zE (scl n c T) n t i r=zE T n t i r
 |0,_,_=>rfl
 |t+1,i,r=>by
  unfold zE
  rw [aJT hc,aFe hc t,aFe hc t]
theorem aGX {f:Nat→Rat} {c x:Rat} {j:Nat}:kX (fun i=>c*f i) j (c*x)=fun i=>c*kX f j x i:=by
 funext i
 by_cases e:i=j
 ·rw [e,aT,aT]
 ·rw [bN e,bN e]
theorem aGi {c:Rat}:z0=fun i=>c*z0 i:=by funext i;show(0:Rat)=c*0;grind
theorem aJ3 {n:Nat} {c:Rat} {T:Nat→Nat→Rat} {b:Nat→Nat}:∀i,swv (scl n c T) b n i=fun j=>c*swv T b n i j
 |0=>aGi
 |i+1=>by
  unfold swv
  rw [aJ3 i,aCV]
  split
  ·exact aGX
  ·rfl
theorem aJ7 {n:Nat} {c:Rat} {T:Nat→Nat→Rat} {b:Nat→Nat}:∀i,szv (scl n c T) b n i=fun j=>c*szv T b n i j
 |0=>aGi
 |i+1=>by
  unfold szv
  rw [aJ7 i,aCV]
  split
  ·rfl
  ·split
   ·exact aGX
   ·rfl
def aL9 (c:Rat) (x:aL):aL:=⟨x.z.map (c*·),x.w.map (c*·),x.pivots⟩
theorem aCA {f:Nat→Rat} {n:Nat} {c:Rat}:(mp f n).map (c*·)=mp (fun j=>c*f j) n:=by
 unfold mp;rw [List.map_map];rfl
theorem aJw {n most:Nat} {c:Rat} (hc:0<c):∀f T b r j cnt,j≤2*n→r<n→(∀i,i<n→b i≤2*n)→lem n most f (scl n c T) b r j cnt=(aL9 c (lem n most f T b r j cnt).1,(lem n most f T b r j cnt).2)
 |0,T,b,r,j,cnt,hj,hr,hb=>rfl
 |f+1,T,b,r,j,cnt,hj,hr,hb=>by
  unfold lem
  rw [aNC hj]
  by_cases e:cnt=most
  ·rw [if_pos e,if_pos e];rfl
  ·rw [if_neg e,if_neg e]
   by_cases e2:b r=2*n
   ·rw [if_pos e2,if_pos e2,aJ3,aJ7]
    unfold aL9
    rw [aCA,aCA]
   ·rw [if_neg e2,if_neg e2]
    have hlt:=aGW (hb r hr) e2
    rw [aD4 hc (by omega)]
    cases hs:sel (sF T r j) n (if b r<n then b r+n else b r-n) n 0 none with
    |none=>rfl
    |some r'=>
     obtain⟨s1,s2⟩:=yZ n 0 none r' (fun q hq=>by cases hq) hs
     exact aJw hc f (sF T r j) (kX b r j) r' _ (cnt+1) (by omega) (by omega) (fun i hi=>by
      by_cases e3:i=r
      ·rw [e3,aT];exact hj
      ·rw [bN e3];exact hb i hi)
theorem aN6 {M:Nat→Nat→Rat} {q:Nat→Rat} {n:Nat} {c:Rat}:yC M (fun i=>c*q i) n=scl n c (yC M q n):=by
 funext i k
 by_cases e:k≤2*n
 ·rw [zY e];unfold yC
  by_cases h1:k<n
  ·rw [if_pos h1,if_pos h1]
  ·by_cases h2:k<2*n
   ·rw [if_neg h1,if_pos h2,if_neg h1,if_pos h2]
   ·rw [if_neg h1,if_neg h2,if_pos (by omega),if_neg h1,if_neg h2,if_pos (by omega)]
 ·rw [aEr (by omega)];unfold yC
  rw [if_neg (by omega),if_neg (by omega),if_neg (by omega),if_neg (by omega),if_neg (by omega),if_neg (by omega)]
theorem aLA {c x:Rat} (hc:0<c):((c*x).num.sign<0)↔(x.num.sign<0):=by
 have k:∀y:Rat,y.num.sign<0↔y<0:=fun y=>by
  rw [Int.sign_neg_iff,←Int.not_le,Rat.num_nonneg,Rat.not_le]
 rw [k,k]
 have:=zK (c:=c) (x:=x) (y:=0) hc
 rwa [Rat.mul_zero] at this
theorem aG7 {q:Nat→Rat} {c:Rat} (hc:0<c):∀t i,ng (fun i=>c*q i) t i=ng q t i
 |0,_=>rfl
 |t+1,i=>by
  unfold ng
  rw [aG7 hc t,decide_eq_decide.2 (aLA hc)]
theorem aM2 {M:Nat→Nat→Rat} {q:Nat→Rat} {n most:Nat} {c:Rat} (hc:0<c):w9 M (fun i=>c*q i) n most=(aL9 c (w9 M q n most).1,(w9 M q n most).2):=by
 unfold w9
 rw [aG7 hc]
 by_cases hneg:ng q n 0=true
 ·rw [hneg,bY,bY,aN6,aFe hc]
  exact aJw hc _ _ _ _ _ _ (Nat.le_refl _) (aBB n 0 0 (aEf hneg) (by omega)) (fun i hi=>by omega)
 ·have hneg':ng q n 0=false:=by cases h:ng q n 0 with|true=>exact absurd h hneg|false=>rfl
  rw [hneg',bU,bU]
  unfold aL9
  rw [aCA,aCA,←aGi]
end Go.Proofs.YtolfcbpgmfbgmaaGreat
set_option linter.unusedVariables false
namespace Go.Proofs.YtolfcbpgmfbgmaaGreat
/-- How the variables are multiplied. -/
def sg (n:Nat) (c:Rat) (j:Nat):Rat:=if j<n then c else if j=2*n then c else 1
theorem y7 {n j:Nat} {c:Rat} (hc:0<c):0<sg n c j:=by
 unfold sg
 split
 ·exact hc
 ·split
  ·exact hc
  ·decide
def gs (n:Nat) (c:Rat) (ρ:Nat→Rat) (T:Nat→Nat→Rat) (i k:Nat):Rat:=ρ i*T i k/sg n c k
theorem aII {a t u x y:Rat} (ha:a≠0) (hx:x≠0) (hy:y≠0):(a*t/y)/(a*u/x)=x*(t/u)/y:=by
 by_cases hu:u=0
 ·subst hu
  have e1:a*0/x=0:=by grind
  have e2:t/0=0:=by rw [Rat.div_def,Rat.inv_zero,Rat.mul_zero]
  rw [e1,e2,Rat.div_def,Rat.inv_zero]
  grind
 ·grind
theorem vE {x:Rat} (h:0<x):x≠0:=fun e=>by rw [e] at h;exact absurd h (Rat.lt_irrefl)
theorem aQb {n r j:Nat} {c:Rat} {ρ:Nat→Rat} {T:Nat→Nat→Rat} (hc:0<c) (hρ:∀i,0<ρ i):sF (gs n c ρ T) r j=gs n c (kX ρ r (sg n c j)) (sF T r j):=by
 funext i k
 have h1:=vE (hρ r)
 have h2:=vE (y7 (n:=n) (j:=j) hc)
 have h3:=vE (y7 (n:=n) (j:=k) hc)
 have e:=aII (t:=T r k) (u:=T r j) h1 h2 h3
 unfold sF
 by_cases e2:i=r
 ·rw [if_pos e2]
  show gs n c ρ T r k/gs n c ρ T r j=kX ρ r (sg n c j) i*(if i=r then _ else _)/sg n c k
  rw [if_pos e2,e2,aT]
  exact e
 ·rw [if_neg e2]
  show gs n c ρ T i k-gs n c ρ T i j*(gs n c ρ T r k/gs n c ρ T r j)=kX ρ r (sg n c j) i*(if i=r then _ else _)/sg n c k
  rw [if_neg e2,bN e2]
  have e':gs n c ρ T r k/gs n c ρ T r j=sg n c j*(T r k/T r j)/sg n c k:=e
  rw [e']
  unfold gs
  generalize T r k/T r j=p
  generalize sg n c j=x at *
  generalize sg n c k=y at *
  grind
theorem aIC {n i k:Nat} {a b a' b':Rat} {T T':Nat→Nat→Rat} (h:∀j,∃f:Rat,0<f∧T' i (lH n j)/a'=f*(T i (lH n j)/a)∧T' k (lH n j)/b'=f*(T k (lH n j)/b)):∀t j,lx T' n i a' k b' t j=lx T n i a k b t j
 |0,_=>rfl
 |t+1,j=>by
  unfold lx
  rw [aIC h t (j+1)]
  obtain⟨f,f0,f1,f2⟩:=h j
  rw [f1,f2]
  have hf:=vE f0
  have h1:(f*(T i (lH n j)/a)=f*(T k (lH n j)/b))↔(T i (lH n j)/a=T k (lH n j)/b):=by
   generalize T i (lH n j)/a=p
   generalize T k (lH n j)/b=q
   constructor
   ·intro e;grind
   ·intro e;rw [e]
  rw [decide_eq_decide.2 h1,decide_eq_decide.2 (zK f0)]
theorem aC7 {a b:Rat} (ha:0<a) (hb:0<b):0<a/b:=by
 rw [Rat.div_def];exact Rat.mul_pos ha (Rat.inv_pos.2 hb)
theorem aQc {n i k j:Nat} {c:Rat} {ρ:Nat→Rat} {T:Nat→Nat→Rat} (hc:0<c) (hρ:∀i,0<ρ i):les (gs n c ρ T) n i (gs n c ρ T i j) k (gs n c ρ T k j)=les T n i (T i j) k (T k j):=
 aIC (fun l=>⟨sg n c j/sg n c (lH n l),aC7 (y7 hc) (y7 hc),by
  have:=aII (t:=T i (lH n l)) (u:=T i j) (vE (hρ i)) (vE (y7 (n:=n) (j:=j) hc)) (vE (y7 (n:=n) (j:=lH n l) hc))
  show ρ i*T i (lH n l)/sg n c (lH n l)/(ρ i*T i j/sg n c j)=_
  rw [this];grind,by
  have:=aII (t:=T k (lH n l)) (u:=T k j) (vE (hρ k)) (vE (y7 (n:=n) (j:=j) hc)) (vE (y7 (n:=n) (j:=lH n l) hc))
  show ρ k*T k (lH n l)/sg n c (lH n l)/(ρ k*T k j/sg n c j)=_
  rw [this];grind⟩) _ _
theorem aMW {c x:Rat} (hc:0<c):(0<(c*x).num.sign)↔(0<x.num.sign):=by
 have k:∀y:Rat,0<y.num.sign↔0<y:=fun y=>by
  rw [Int.sign_pos_iff]
  constructor
  ·intro h;exact Rat.not_le.1 fun h2=>by
    have:y.num≤0:=by
     have:=Rat.num_nonneg (q:=-y)
     rw [Rat.neg_num] at this
     have h3:0≤-y:=by grind
     have:=this.2 h3
     omega
    omega
  ·intro h
   have:¬y.num≤0:=fun h2=>by
    have h3:=(Rat.num_nonneg (q:=-y)).1 (by rw [Rat.neg_num];omega)
    grind
   omega
 rw [k,k]
 have:=zK (c:=c) (x:=0) (y:=x) hc
 rwa [Rat.mul_zero] at this
theorem aP4 {n i k:Nat} {c:Rat} {ρ:Nat→Rat} {T:Nat→Nat→Rat}:gs n c ρ T i k=(ρ i/sg n c k)*T i k:=by unfold gs;grind
theorem aHl {n j:Nat} {c:Rat} {ρ:Nat→Rat} {T:Nat→Nat→Rat} (hc:0<c) (hρ:∀i,0<ρ i):∀t i s,sel (gs n c ρ T) n j t i s=sel T n j t i s
 |0,_,_=>rfl
 |t+1,i,s=>by
  unfold sel
  have e:decide (0<(gs n c ρ T i j).num.sign)=decide (0<(T i j).num.sign):=by
   rw [decide_eq_decide,aP4];exact aMW (aC7 (hρ i) (y7 hc))
  rw [e,aHl hc hρ t]
  cases s with
  |none=>simp only [aHl hc hρ t]
  |some r=>simp only [aQc hc hρ,aHl hc hρ t]
theorem aHh {n:Nat} {c:Rat} {T:Nat→Nat→Rat} (hc:0<c):∀t i r,zE (gs n c (fun _=>c) T) n t i r=zE T n t i r
 |0,_,_=>rfl
 |t+1,i,r=>by
  unfold zE
  have e:les (gs n c (fun _=>c) T) n i 1 r 1=les T n i 1 r 1:=aIC (fun l=>⟨c/sg n c (lH n l),aC7 hc (y7 hc),by unfold gs;grind,by unfold gs;grind⟩) _ _
  rw [e,aHh hc t,aHh hc t]
theorem aJX {n i:Nat} {c:Rat} {ρ:Nat→Rat} {T:Nat→Nat→Rat}:gs n c ρ T i (2*n+1)=ρ i*T i (2*n+1):=by
 unfold gs sg
 rw [if_neg (by omega),if_neg (by omega)]
 grind
theorem aM6 {n:Nat} {c:Rat} {ρ:Nat→Rat} {T:Nat→Nat→Rat} {b:Nat→Nat} (h:∀i,i<n→ρ i=sg n c (b i)):∀i,i≤n→swv (gs n c ρ T) b n i=fun j=>c*swv T b n i j
 |0,_=>aGi
 |i+1,hi=>by
  unfold swv
  rw [aM6 h i (by omega),aJX,h i (by omega)]
  split
  ·rename_i hb
   have e:sg n c (b i)=c:=by unfold sg;rw [if_pos hb]
   rw [e];exact aGX
  ·rfl
theorem aL6 {n:Nat} {c:Rat} {ρ:Nat→Rat} {T:Nat→Nat→Rat} {b:Nat→Nat} (h:∀i,i<n→ρ i=sg n c (b i)):∀i,i≤n→szv (gs n c ρ T) b n i=szv T b n i
 |0,_=>rfl
 |i+1,hi=>by
  unfold szv
  rw [aL6 h i (by omega),aJX,h i (by omega)]
  split
  ·rfl
  ·rename_i h1
   split
   ·rename_i h2
    have e:sg n c (b i)=1:=by unfold sg;rw [if_neg h1,if_neg (by omega)]
    rw [e,Rat.one_mul]
   ·rfl
def aMD (c:Rat) (x:aL):aL:=⟨x.z,x.w.map (c*·),x.pivots⟩
theorem aMN {n most:Nat} {c:Rat} (hc:0<c):∀f T b ρ r j cnt,(∀i,0<ρ i)→(∀i,i<n→ρ i=sg n c (b i))→r<n→lem n most f (gs n c ρ T) b r j cnt=(aMD c (lem n most f T b r j cnt).1,(lem n most f T b r j cnt).2)
 |0,T,b,ρ,r,j,cnt,hρ,hb,hr=>rfl
 |f+1,T,b,ρ,r,j,cnt,hρ,hb,hr=>by
  unfold lem
  rw [aQb hc hρ]
  have hρ':∀i,0<kX ρ r (sg n c j) i:=fun i=>by
   by_cases e:i=r
   ·rw [e,aT];exact y7 hc
   ·rw [bN e];exact hρ i
  have hb':∀i,i<n→kX ρ r (sg n c j) i=sg n c (kX b r j i):=fun i hi=>by
   by_cases e:i=r
   ·rw [e,aT,aT]
   ·rw [bN e,bN e];exact hb i hi
  by_cases e:cnt=most
  ·rw [if_pos e,if_pos e];rfl
  ·rw [if_neg e,if_neg e]
   by_cases e2:b r=2*n
   ·rw [if_pos e2,if_pos e2,aM6 hb' n (Nat.le_refl n),aL6 hb' n (Nat.le_refl n)]
    unfold aMD
    rw [aCA]
   ·rw [if_neg e2,if_neg e2,aHl hc hρ']
    cases hs:sel (sF T r j) n (if b r<n then b r+n else b r-n) n 0 none with
    |none=>rfl
    |some r'=>
     obtain⟨s1,s2⟩:=yZ n 0 none r' (fun q hq=>by cases hq) hs
     exact aMN hc f (sF T r j) (kX b r j) _ r' _ (cnt+1) hρ' hb' (by omega)
theorem aQE {M:Nat→Nat→Rat} {q:Nat→Rat} {n:Nat} {c:Rat} (hc:0<c):yC (fun i k=>c*M i k) (fun i=>c*q i) n=gs n c (fun _=>c) (yC M q n):=by
 have hc0:=vE hc
 funext i k
 unfold gs yC sg
 by_cases h1:k<n
 ·rw [if_pos h1,if_pos h1,if_pos h1];split<;>grind
 ·rw [if_neg h1,if_neg h1,if_neg h1]
  by_cases h2:k<2*n
  ·rw [if_pos h2,if_pos h2,if_neg (by omega)];grind
  ·rw [if_neg h2,if_neg h2]
   by_cases h3:k=2*n
   ·rw [if_pos h3,if_pos h3,if_pos h3];grind
   ·rw [if_neg h3,if_neg h3,if_neg h3];grind
theorem aLb {M:Nat→Nat→Rat} {q:Nat→Rat} {n most:Nat} {c:Rat} (hc:0<c):w9 (fun i k=>c*M i k) (fun i=>c*q i) n most=(aMD c (w9 M q n most).1,(w9 M q n most).2):=by
 unfold w9
 rw [aG7 hc]
 by_cases hneg:ng q n 0=true
 ·rw [hneg,bY,bY,aQE hc,aHh hc]
  exact aMN hc _ _ _ _ _ _ _ (fun _=>hc) (fun i hi=>by unfold sg;rw [if_pos hi]) (aBB n 0 0 (aEf hneg) (by omega))
 ·have hneg':ng q n 0=false:=by cases h:ng q n 0 with|true=>exact absurd h hneg|false=>rfl
  rw [hneg',bU,bU]
  unfold aMD
  rw [aCA]
end Go.Proofs.YtolfcbpgmfbgmaaGreat
set_option linter.unusedVariables false
namespace Go.Proofs.YtolfcbpgmfbgmaaGreat
/-- What kills the tableau kills the first one. -/
def KE (n w:Nat) (Z T:Nat→Nat→Rat):Prop:=∀x:Nat→Rat,(∀i,i<n→sm (fun k=>T i k*x k) w=0)→∀i,i<n→sm (fun k=>Z i k*x k) w=0
theorem KE.pivot {n w r c:Nat} {Z T:Nat→Nat→Rat} (h:KE n w Z T) (hr:r<n) (hp:T r c≠0):KE n w Z (sF T r c):=fun x hx=>h x fun i hi=>by
 have e0:sm (fun k=>T r k*x k) w=0:=by
  have h1:=hx r hr
  have e:sm (fun k=>sF T r c r k*x k) w=(1/T r c)*sm (fun k=>T r k*x k) w:=by
   rw [←zQ];exact fO fun k _=>by unfold sF;rw [if_pos rfl];grind
  rw [e] at h1
  grind
 by_cases e:i=r
 ·rw [e];exact e0
 ·have h1:=hx i hi
  have e1:sm (fun k=>sF T r c i k*x k) w=sm (fun k=>T i k*x k) w-(T i c/T r c)*sm (fun k=>T r k*x k) w:=by
   rw [←aDH];exact fO fun k _=>by unfold sF;rw [if_neg e];grind
  rw [e1,e0] at h1
  grind
def nn (f:Nat→Rat):Nat→Nat→Prop
 |0,_=>True
 |t+1,j=>0<f j∨(f j=0∧nn f t (j+1))
theorem nn.congr {f g:Nat→Rat}:∀{t j:Nat},(∀k,f k=g k)→nn f t j→nn g t j
 |0,_,_,_=>trivial
 |t+1,j,e,h=>by
  unfold nn at h ⊢
  rw [←e j]
  exact h.imp id fun h=>⟨h.1,nn.congr e h.2⟩
theorem nn.add {f g:Nat→Rat}:∀{t j:Nat},nn f t j→nn g t j→nn (fun k=>f k+g k) t j
 |0,_,_,_=>trivial
 |t+1,j,h1,h2=>by
  unfold nn at h1 h2 ⊢
  rcases h1 with h1|⟨h1,k1⟩<;>rcases h2 with h2|⟨h2,k2⟩
  ·left;grind
  ·left;grind
  ·left;grind
  ·right;exact⟨by grind,nn.add k1 k2⟩
theorem nn.mul {f:Nat→Rat} {a:Rat} (ha:0≤a):∀{t j:Nat},nn f t j→nn (fun k=>a*f k) t j
 |0,_,_=>trivial
 |t+1,j,h=>by
  unfold nn at h ⊢
  by_cases e:a=0
  ·right
   refine⟨by rw [e,Rat.zero_mul],?_⟩
   have:∀t j,nn (fun k=>a*f k) t j:=fun t=>by
    induction t with
    |zero=>intro j;trivial
    |succ t ih=>intro j;exact Or.inr ⟨by show a*f j=0;rw [e,Rat.zero_mul],ih (j+1)⟩
   exact this t (j+1)
  ·rcases h with h|⟨h,k⟩
   ·left
    exact Rat.mul_pos (by grind) h
   ·right
    exact⟨by rw [h,Rat.mul_zero],nn.mul ha k⟩
theorem nn.head {f:Nat→Rat} {t j:Nat} (h:nn f (t+1) j):0≤f j:=by
 unfold nn at h
 rcases h with h|h
 ·exact Rat.le_of_lt h
 ·rw [h.1];exact Rat.le_refl
def aIR (T:Nat→Nat→Rat) (n c k r:Nat):Prop:=nn (fun j=>T k (lH n j)/T k c-T r (lH n j)/T r c) (n+1) 0
def aLp (n:Nat) (T:Nat→Nat→Rat):Prop:=∀i,i<n→nn (fun j=>T i (lH n j)) (n+1) 0
theorem aLp.last {n i:Nat} {T:Nat→Nat→Rat} (h:aLp n T) (hi:i<n):0≤T i (2*n+1):=(h i hi).head
theorem aLp.pivot {n r c:Nat} {T:Nat→Nat→Rat} (h:aLp n T) (hr:r<n) (hp:0<T r c) (hm:∀k,k<n→0<T k c→aIR T n c k r):aLp n (sF T r c):=fun i hi=>by
 have hinv:(0:Rat)≤1/T r c:=by rw [Rat.div_def,Rat.one_mul];exact Rat.le_of_lt (Rat.inv_pos.2 hp)
 by_cases e:i=r
 ·exact((h r hr).mul hinv).congr fun j=>by unfold sF;rw [if_pos e];grind
 ·by_cases h2:0<T i c
  ·exact((hm i hi h2).mul (Rat.le_of_lt h2)).congr fun j=>by unfold sF;rw [if_neg e];grind
  ·have h3:0≤(-(T i c))*(1/T r c):=Rat.mul_nonneg (by grind) hinv
   exact((h i hi).add ((h r hr).mul h3)).congr fun j=>by unfold sF;rw [if_neg e];grind
def cpl (n x:Nat):Nat:=if x<n then x+n else x-n
theorem aI1 {n x:Nat} (h:x<2*n):cpl n x<2*n:=by unfold cpl;split<;>omega
theorem aC2 {n x:Nat} (h:x<2*n):cpl n (cpl n x)=x:=by
 unfold cpl
 by_cases e:x<n
 ·rw [if_pos e,if_neg (by omega)];omega
 ·rw [if_neg e,if_pos (by omega)];omega
theorem aMG {n x:Nat} (hn:0<n):cpl n x≠x∨2*n≤x:=by unfold cpl;split<;>omega
structure CB (n:Nat) (b:Nat→Nat) (c:Nat):Prop where
 inj:∀i j,i<n→j<n→b i=b j→i=j
 nc:∀i,i<n→b i≠c
 np:c<2*n→∀i,i<n→b i≠cpl n c
 pr:∀i j,i<n→j<n→b i<2*n→b j≠cpl n (b i)
theorem CB.pr' {n r c:Nat} {b:Nat→Nat} (h:CB n b c) (hr:r<n) (hc:c≤2*n):∀i j,i<n→j<n→kX b r c i<2*n→kX b r c j≠cpl n (kX b r c i):=fun i j hi hj hlt=>by
 by_cases e1:i=r
 ·subst e1
  rw [aT] at hlt ⊢
  by_cases e2:j=i
  ·subst e2;rw [aT]
   intro e
   rcases aMG (n:=n) (x:=c) (by omega) with h1|h1
   ·exact h1 e.symm
   ·omega
  ·rw [bN e2];exact h.np hlt j hj
 ·rw [bN e1] at hlt ⊢
  by_cases e2:j=r
  ·subst e2;rw [aT]
   intro e
   have h1:=aI1 hlt
   have h2:b i=cpl n c:=by rw [e,aC2 hlt]
   exact h.np (by omega) i hi h2
  ·rw [bN e2];exact h.pr i j hi hj hlt
theorem CB.inj' {n r c:Nat} {b:Nat→Nat} (h:CB n b c):∀i j,i<n→j<n→kX b r c i=kX b r c j→i=j:=fun i j hi hj e=>by
 by_cases e1:i=r
 ·by_cases e2:j=r
  ·omega
  ·rw [e1,aT,bN e2] at e
   exact absurd e.symm (h.nc j hj)
 ·by_cases e2:j=r
  ·rw [e2,aT,bN e1] at e
   exact absurd e (h.nc i hi)
  ·rw [bN e1,bN e2] at e
   exact h.inj i j hi hj e
theorem CB.next {n r c:Nat} {b:Nat→Nat} (h:CB n b c) (hr:r<n) (hc:c≤2*n) (hl:b r<2*n):CB n (kX b r c) (cpl n (b r)):=by
 refine⟨h.inj',fun i hi=>?_,fun _ i hi=>?_,h.pr' hr hc⟩
 ·by_cases e:i=r
  ·rw [e,aT]
   intro e2
   have h1:=aI1 hl
   exact h.np (by omega) r hr (by rw [e2,aC2 hl])
  ·rw [bN e];exact h.pr r i hr hi hl
 ·rw [aC2 hl]
  by_cases e:i=r
  ·rw [e,aT];exact fun e2=>h.nc r hr e2.symm
  ·rw [bN e];exact fun e2=>e (h.inj i r hi hr e2)
end Go.Proofs.YtolfcbpgmfbgmaaGreat
set_option linter.unusedVariables false
namespace Go.Proofs.YtolfcbpgmfbgmaaGreat
def psl (f:Nat→Rat):Nat→Nat→Prop
 |0,_=>False
 |t+1,j=>0<f j∨(f j=0∧psl f t (j+1))
theorem psl.congr {f g:Nat→Rat}:∀{t j:Nat},(∀k,f k=g k)→psl f t j→psl g t j
 |0,_,_,h=>h
 |t+1,j,e,h=>by
  unfold psl at h ⊢
  rw [←e j]
  exact h.imp id fun h=>⟨h.1,psl.congr e h.2⟩
theorem psl.add {f g:Nat→Rat}:∀{t j:Nat},psl f t j→nn g t j→psl (fun k=>f k+g k) t j
 |0,_,h,_=>h
 |t+1,j,h1,h2=>by
  unfold psl at h1 ⊢
  unfold nn at h2
  rcases h1 with h1|⟨h1,k1⟩<;>rcases h2 with h2|⟨h2,k2⟩
  ·left;grind
  ·left;grind
  ·left;grind
  ·right;exact⟨by grind,psl.add k1 k2⟩
theorem psl.mul {f:Nat→Rat} {a:Rat} (ha:0<a):∀{t j:Nat},psl f t j→psl (fun k=>a*f k) t j
 |0,_,h=>h
 |t+1,j,h=>by
  unfold psl at h ⊢
  rcases h with h|⟨h,k⟩
  ·left;exact Rat.mul_pos ha h
  ·right;exact⟨by rw [h,Rat.mul_zero],psl.mul ha k⟩
theorem psl.zero {f:Nat→Rat}:∀{t j:Nat},psl f t j→∃k,j≤k∧k<j+t∧f k≠0
 |0,_,h=>h.elim
 |t+1,j,h=>by
  unfold psl at h
  rcases h with h|⟨h,k⟩
  ·exact⟨j,by omega,by omega,by grind⟩
  ·obtain⟨k,h1,h2,h3⟩:=k.zero
   exact⟨k,by omega,by omega,h3⟩
theorem nn.strict {f:Nat→Rat}:∀{t j:Nat},nn f t j→(∃k,j≤k∧k<j+t∧f k≠0)→psl f t j
 |0,_,_,⟨k,h1,h2,_⟩=>by omega
 |t+1,j,h,⟨k,h1,h2,h3⟩=>by
  unfold nn at h
  unfold psl
  rcases h with h|⟨h,h'⟩
  ·exact Or.inl h
  ·refine Or.inr ⟨h,h'.strict ⟨k,?_,by omega,h3⟩⟩
   by_cases e:k=j
   ·subst e;exact absurd h h3
   ·omega
def mem (n:Nat) (b:Nat→Nat) (v:Nat):Prop:=∃i,i<n∧b i=v
structure SI (n:Nat) (Z T:Nat→Nat→Rat) (b:Nat→Nat) (c:Nat):Prop where
 ti:TI n (2*n+2) Z T b
 ke:KE n (2*n+2) Z T
 sp:∃F:Nat→Nat→Rat,∀i k,i<n→k<2*n+2→Z i k=sm (fun j=>F i j*T j k) n
 id:∀i j,i<n→j<n→Z i j=if i=j then 1 else 0
 lx:aLp n T
 cb:CB n b c
 hb:∀i,i<n→b i≤2*n
 hc:c<2*n
theorem SI.inj {n:Nat} {Z T:Nat→Nat→Rat} {b:Nat→Nat} {c:Nat} (h:SI n Z T b c):∀i j,i<n→j<n→b i=b j→i=j:=h.cb.inj
theorem SI.pos {n:Nat} {Z T:Nat→Nat→Rat} {b:Nat→Nat} {c:Nat} (h:SI n Z T b c) {i:Nat} (hi:i<n):psl (fun j=>T i (lH n j)) (n+1) 0:=by
 refine(h.lx i hi).strict ?_
 refine Classical.byContradiction fun hno=>?_
 have zero:∀k,k<n→T i k=0:=fun k hk=>by
  refine Classical.byContradiction fun h1=>hno ⟨k+1,by omega,by omega,?_⟩
  unfold lH;rw [if_neg (by omega),show k+1-1=k by omega];exact h1
 obtain⟨E,hE⟩:=h.ti.ex
 have hE0:∀k,k<n→E i k=0:=fun k hk=>by
  have h1:=hE i k hi (by omega)
  rw [zero k hk,yE,aDN hk fun j hj hne=>by rw [h.id j k hj hk,if_neg hne,Rat.zero_mul],h.id k k hk hk,if_pos rfl,Rat.one_mul] at h1
  exact h1.symm
 have h2:=hE i (b i) hi (h.ti.lt i hi)
 rw [h.ti.un i i hi hi,if_pos rfl,yE,aD8 fun j hj=>by rw [hE0 j hj,Rat.mul_zero]] at h2
 exact absurd h2 (by decide)
theorem SI.row {n:Nat} {Z T T':Nat→Nat→Rat} {b b':Nat→Nat} {c c':Nat} (h:SI n Z T b c) (h':SI n Z T' b' c') (hm:∀v,mem n b v↔mem n b' v) {i j:Nat} (hi:i<n) (hj:j<n) (e:b i=b' j) {k:Nat} (hk:k<2*n+2):T i k=T' j k:=by
 obtain⟨E,hE⟩:=h'.ti.ex
 obtain⟨F,hF⟩:=h.sp
 let g:Nat→Rat:=fun m=>sm (fun l=>E j l*F l m) n
 have hg:∀k,k<2*n+2→T' j k=sm (fun m=>g m*T m k) n:=fun k hk=>by
  rw [hE j k hj hk,yE]
  have e1:sm (fun l=>Z l k*E j l) n=sm (fun l=>sm (fun m=>E j l*F l m*T m k) n) n:=fO fun l hl=>by
   rw [hF l k hl hk,Rat.mul_comm,←zQ]
   exact fO fun m _=>by grind
  rw [e1,aGH]
  refine fO fun m _=>?_
  show _=sm (fun l=>E j l*F l m) n*T m k
  rw [Rat.mul_comm,←zQ]
  exact fO fun l _=>by grind
 have gd:∀m,m<n→g m=if m=i then 1 else 0:=fun m hmn=>by
  have h1:=hg (b m) (h.ti.lt m hmn)
  rw [aDN hmn fun m' hm' hne=>by rw [h.ti.un m' m hm' hmn,if_neg hne,Rat.mul_zero],h.ti.un m m hmn hmn,if_pos rfl,Rat.mul_one] at h1
  obtain⟨j',hj',e'⟩:=(hm (b m)).1 ⟨m,hmn,rfl⟩
  rw [←h1,←e',h'.ti.un j j' hj hj']
  by_cases e2:m=i
  ·subst e2
   rw [if_pos rfl,if_pos (h'.inj j j' hj hj' (by rw [←e,e']))]
  ·rw [if_neg e2,if_neg fun e3=>e2 (h.inj m i hmn hi (by rw [e,e3,e']))]
 rw [hg k hk,aDN hi fun m hmn hne=>by rw [gd m hmn,if_neg hne,Rat.zero_mul],gd i hi,if_pos rfl,Rat.one_mul]
def aA0 (n:Nat) (T:Nat→Nat→Rat) (x r:Nat):Prop:=0<T r x∧∀k,k<n→0<T k x→aIR T n x k r
theorem aNu {n w r c:Nat} {Z T:Nat→Nat→Rat} (h:∃F:Nat→Nat→Rat,∀i k,i<n→k<w→Z i k=sm (fun j=>F i j*T j k) n) (hr:r<n) (hp:T r c≠0):∃F:Nat→Nat→Rat,∀i k,i<n→k<w→Z i k=sm (fun j=>F i j*sF T r c j k) n:=by
 obtain⟨F,hF⟩:=h
 refine⟨fun i j=>if j=r then sm (fun l=>F i l*T l c) n else F i j,fun i k hi hk=>?_⟩
 rw [hF i k hi hk]
 have e:∀j,F i j*T j k=(if j=r then F i j*T j k-F i j*T j c*(T r k/T r c) else F i j*T j k-F i j*T j c*(T r k/T r c))+(T r k/T r c)*(F i j*T j c):=fun j=>by split<;>grind
 have e1:sm (fun j=>F i j*T j k) n=sm (fun j=>F i j*T j k-(T r k/T r c)*(F i j*T j c)) n+(T r k/T r c)*sm (fun l=>F i l*T l c) n:=by
  rw [aDH];grind
 have e2:sm (fun j=>(if j=r then sm (fun l=>F i l*T l c) n else F i j)*sF T r c j k) n=sm (fun j=>(F i j*T j k-(T r k/T r c)*(F i j*T j c))+(if j=r then(T r k/T r c)*sm (fun l=>F i l*T l c) n else 0)) n:=fO fun j hj=>by
  unfold sF
  by_cases e3:j=r
  ·subst e3
   rw [if_pos rfl,if_pos rfl,if_pos rfl];grind
  ·rw [if_neg e3,if_neg e3,if_neg e3];grind
 rw [e1,e2,aGe]
 congr 1
 rw [aDN hr fun j hj hne=>if_neg hne,if_pos rfl]
theorem SI.next {n r c:Nat} {Z T:Nat→Nat→Rat} {b:Nat→Nat} (h:SI n Z T b c) (hr:r<n) (hl:aA0 n T c r) (hx:b r<2*n):SI n Z (sF T r c) (kX b r c) (cpl n (b r)):=by
 have hc:=h.hc
 have hp:T r c≠0:=by have:=hl.1;grind
 exact⟨h.ti.pivot hr (by omega) hp,h.ke.pivot hr hp,aNu h.sp hr hp,h.id,h.lx.pivot hr hl.1 hl.2,h.cb.next hr (by omega) hx,fun i hi=>by
  by_cases e:i=r
  ·rw [e,aT];omega
  ·rw [bN e];exact h.hb i hi,aI1 hx⟩
theorem aGn {n r c:Nat} {b:Nat→Nat} (hi:∀i j,i<n→j<n→b i=b j→i=j) (hr:r<n) (hc:∀i,i<n→b i≠c) (v:Nat):mem n (kX b r c) v↔(v=c∨(mem n b v∧v≠b r)):=by
 constructor
 ·rintro⟨i,h1,h2⟩
  by_cases e:i=r
  ·rw [e,aT] at h2;exact Or.inl h2.symm
  ·rw [bN e] at h2
   exact Or.inr ⟨⟨i,h1,h2⟩,fun h3=>e (hi i r h1 hr (by rw [h2,h3]))⟩
 ·rintro(h|⟨⟨i,h1,h2⟩,h3⟩)
  ·exact⟨r,hr,by rw [aT,h]⟩
  ·have e:i≠r:=fun e=>h3 (by rw [←h2,e])
   exact⟨i,h1,by rw [bN e,h2]⟩
theorem aRZ {n r c:Nat} {Z T:Nat→Nat→Rat} {b:Nat→Nat} (h:SI n Z T b c) (hr:r<n) (hl:aA0 n T c r):0<sF T r c r (b r)∧∀r',r'<n→aA0 n (sF T r c) (b r) r'→r'=r:=by
 have hp:=hl.1
 have u:∀i,i<n→T i (b r)=if i=r then 1 else 0:=fun i hi=>h.ti.un i r hi hr
 have hrr:sF T r c r (b r)=1/T r c:=by unfold sF;rw [if_pos rfl,u r hr,if_pos rfl]
 have hpos:0<sF T r c r (b r):=by rw [hrr,Rat.div_def,Rat.one_mul];exact Rat.inv_pos.2 hp
 refine⟨hpos,fun r' hr' hl'=>Classical.byContradiction fun hne=>?_⟩
 have h1:sF T r c r' (b r)=-(T r' c)/T r c:=by
  unfold sF;rw [if_neg hne,u r' hr',if_neg hne,u r hr,if_pos rfl];grind
 have h2:=hl'.1
 have h3:T r' c<0:=by
  refine Rat.not_le.1 fun h4=>?_
  rw [h1] at h2
  have:0≤T r' c*(1/T r c):=Rat.mul_nonneg h4 (by rw [Rat.div_def,Rat.one_mul];exact Rat.le_of_lt (Rat.inv_pos.2 hp))
  grind
 have m:0<T r c/ -(T r' c):=by rw [Rat.div_def];exact Rat.mul_pos hp (Rat.inv_pos.2 (by grind))
 have s:=((h.pos hr').mul m).add (hl'.2 r hr hpos)
 obtain⟨k,_,_,hk⟩:=s.zero
 refine hk ?_
 rw [hrr,h1]
 unfold sF
 rw [if_pos rfl,if_neg hne]
 grind
end Go.Proofs.YtolfcbpgmfbgmaaGreat
set_option linter.unusedVariables false
namespace Go.Proofs.YtolfcbpgmfbgmaaGreat
theorem psl.nn {f:Nat→Rat}:∀{t j:Nat},psl f t j→nn f t j
 |0,_,h=>h.elim
 |t+1,j,h=>by
  unfold psl at h
  unfold Go.Proofs.YtolfcbpgmfbgmaaGreat.nn
  exact h.imp id fun h=>⟨h.1,h.2.nn⟩
theorem nn.congr_le {f g:Nat→Rat}:∀{t j:Nat},(∀k,k<j+t→f k=g k)→nn f t j→nn g t j
 |0,_,_,_=>trivial
 |t+1,j,e,h=>by
  unfold Go.Proofs.YtolfcbpgmfbgmaaGreat.nn at h ⊢
  rw [←e j (by omega)]
  exact h.imp id fun h=>⟨h.1,nn.congr_le (fun k hk=>e k (by omega)) h.2⟩
theorem aKu {f:Nat→Rat} (h:∀k,f k=0):∀t j,nn f t j
 |0,_=>trivial
 |t+1,j=>Or.inr ⟨h j,aKu h t (j+1)⟩
theorem aIU {n r c:Nat} {Z T:Nat→Nat→Rat} {b:Nat→Nat} (h:SI n Z T b c) (hr:r<n) (hl:aA0 n T c r):aA0 n (sF T r c) (b r) r:=by
 have hp:=hl.1
 have u:∀i,i<n→T i (b r)=if i=r then 1 else 0:=fun i hi=>h.ti.un i r hi hr
 have hrr:sF T r c r (b r)=1/T r c:=by unfold sF;rw [if_pos rfl,u r hr,if_pos rfl]
 refine⟨(aRZ h hr hl).1,fun k hk hkp=>?_⟩
 unfold aIR
 by_cases e:k=r
 ·subst e;exact aKu (fun j=>by grind) _ _
 ·have h1:sF T r c k (b r)=-(T k c)/T r c:=by
   unfold sF;rw [if_neg e,u k hk,if_neg e,u r hr,if_pos rfl];grind
  have h3:T k c<0:=by
   refine Rat.not_le.1 fun h4=>?_
   rw [h1] at hkp
   have:0≤T k c*(1/T r c):=Rat.mul_nonneg h4 (by rw [Rat.div_def,Rat.one_mul];exact Rat.le_of_lt (Rat.inv_pos.2 hp))
   grind
  have m:0<T r c/ -(T k c):=by rw [Rat.div_def];exact Rat.mul_pos hp (Rat.inv_pos.2 (by grind))
  refine(((h.pos hk).mul m).nn).congr fun j=>?_
  rw [hrr,h1]
  unfold sF
  rw [if_pos rfl,if_neg e]
  grind
theorem aCb {n:Nat} {Z T T':Nat→Nat→Rat} {b b':Nat→Nat} {c c' x r m:Nat} (h:SI n Z T b c) (h':SI n Z T' b' c') (hm:∀v,mem n b v↔mem n b' v) (hr:r<n) (hmn:m<n) (e:b' m=b r) (hx:x<2*n+2) (hl:aA0 n T x r):aA0 n T' x m:=by
 have row:∀i j,i<n→j<n→b i=b' j→∀k,k<2*n+2→T i k=T' j k:=fun i j hi hj e k hk=>h.row h' hm hi hj e hk
 refine⟨by rw [←row r m hr hmn e.symm x hx];exact hl.1,fun k hk hp=>?_⟩
 obtain⟨i,hi,e2⟩:=(hm (b' k)).2 ⟨k,hk,rfl⟩
 have hp2:0<T i x:=by rw [row i k hi hk e2 x hx];exact hp
 refine(hl.2 i hi hp2).congr_le fun j hj=>?_
 have hc:lH n j<2*n+2:=by unfold lH;split<;>omega
 rw [row i k hi hk e2 _ hc,row r m hr hmn e.symm _ hc,row i k hi hk e2 x hx,row r m hr hmn e.symm x hx]
structure Run (n:Nat) (Z:Nat→Nat→Rat) (TT:Nat→Nat→Nat→Rat) (BB:Nat→Nat→Nat) (CC:Nat→Nat) (N:Nat):Prop where
 si:∀k,k≤N→SI n Z (TT k) (BB k) (CC k)
 st:∀k,k<N→∃r,r<n∧aA0 n (TT k) (CC k) r∧BB k r<2*n∧TT (k+1)=sF (TT k) r (CC k)∧BB (k+1)=kX (BB k) r (CC k)∧CC (k+1)=cpl n (BB k r)
 beg:∀i,i<n→TT 0 i (cpl n (CC 0))≤0
section
variable {n N:Nat} {Z:Nat→Nat→Rat} {TT:Nat→Nat→Nat→Rat} {BB:Nat→Nat→Nat} {CC:Nat→Nat}
theorem Run.prev (h:Run n Z TT BB CC N) {k:Nat} (hk:k<N):∃r,r<n∧aA0 n (TT k) (CC k) r∧aA0 n (TT (k+1)) (cpl n (CC (k+1))) r∧(∀r',r'<n→aA0 n (TT (k+1)) (cpl n (CC (k+1))) r'→r'=r)∧BB (k+1) r=CC k∧BB k r=cpl n (CC (k+1))∧cpl n (CC (k+1))<2*n∧
  (∀v,mem n (BB k) v↔(v=cpl n (CC (k+1))∨(mem n (BB (k+1)) v∧v≠CC k)))∧(∀v,mem n (BB (k+1)) v↔(v=CC k∨(mem n (BB k) v∧v≠cpl n (CC (k+1))))):=by
 obtain⟨r,r1,r2,r3,r4,r5,r6⟩:=h.st k hk
 have hs:=h.si k (by omega)
 have e:cpl n (CC (k+1))=BB k r:=by rw [r6,aC2 r3]
 have hm:=aGn (v:=0) hs.inj r1 hs.cb.nc
 refine⟨r,r1,r2,?_,?_,by rw [r5,aT],e.symm,by rw [e];exact r3,fun v=>?_,fun v=>?_⟩
 ·rw [e,r4];exact aIU hs r1 r2
 ·rw [e,r4];exact(aRZ hs r1 r2).2
 ·rw [r5,aGn hs.inj r1 hs.cb.nc,e]
  constructor
  ·intro hv
   by_cases e2:v=BB k r
   ·exact Or.inl e2
   ·refine Or.inr ⟨Or.inr ⟨hv,e2⟩,fun e3=>?_⟩
    obtain⟨i,hi,hi2⟩:=hv
    exact hs.cb.nc i hi (by rw [hi2,e3])
  ·rintro(hv|⟨hv|hv,hv2⟩)
   ·exact⟨r,r1,hv.symm⟩
   ·exact absurd hv hv2
   ·exact hv.1
 ·rw [r5,aGn hs.inj r1 hs.cb.nc,e]
theorem Run.key (h:Run n Z TT BB CC N):∀i j,i<j→j≤N→CC i=CC j→(∀v,mem n (BB i) v↔mem n (BB j) v)→False
 |i,0,hij,_,_,_=>by omega
 |0,j+1,hij,hj,hc,hs=>by
  obtain⟨r,r1,_,r3,_,r5,_,r7,_⟩:=h.prev (show j<N by omega)
  obtain⟨m,m1,m2⟩:=(hs (BB (j+1) r)).2 ⟨r,r1,rfl⟩
  have l:=aCb (h.si (j+1) hj) (h.si 0 (by omega)) (fun v=>(hs v).symm) r1 m1 m2 (x:=cpl n (CC (j+1))) (by omega) r3
  rw [←hc] at l
  exact absurd l.1 (Rat.not_lt.2 (h.beg m m1))
 |i+1,j+1,hij,hj,hc,hs=>by
  obtain⟨r,r1,_,r3,_,r5,_,r7,r8,_⟩:=h.prev (show j<N by omega)
  obtain⟨q,q1,_,q3,q4,q5,_,_,q8,_⟩:=h.prev (show i<N by omega)
  obtain⟨m,m1,m2⟩:=(hs (BB (j+1) r)).2 ⟨r,r1,rfl⟩
  have l:=aCb (h.si (j+1) hj) (h.si (i+1) (by omega)) (fun v=>(hs v).symm) r1 m1 m2 (x:=cpl n (CC (j+1))) (by omega) r3
  rw [←hc] at l
  have e:=q4 m m1 l
  rw [e,q5,r5] at m2
  refine h.key i j (by omega) (by omega) m2 fun v=>?_
  rw [r8,q8,hs v,hc,m2]
theorem Run.turn (h:Run n Z TT BB CC N):∀g i j,j=i+g→i<j→j≤N→CC j=cpl n (CC i)→(∀v,mem n (BB i) v↔mem n (BB j) v)→False
 |0,i,j,hg,hij,_,_,_=>by omega
 |1,i,j,hg,hij,hj,hc,hs=>by
  subst hg
  obtain⟨r,r1,r2,r3,r4,r5,r6,r7,r8,r9⟩:=h.prev (show i<N by omega)
  have h1:=(hs (CC i)).2 ((r9 (CC i)).2 (Or.inl rfl))
  obtain⟨m,m1,m2⟩:=h1
  exact(h.si i (by omega)).cb.nc m m1 m2
 |g+2,i,j,hg,hij,hj,hc,hs=>by
  obtain⟨j',rfl⟩:∃j',j=j'+1:=⟨j-1,by omega⟩
  obtain⟨r,r1,r2,r3,r4,r5,r6,r7,r8,r9⟩:=h.prev (show j'<N by omega)
  obtain⟨q,q1,q2,q3,q4,q5,q6,q7,q8,q9⟩:=h.prev (show i<N by omega)
  have hci:=(h.si i (by omega)).hc
  have ex:cpl n (CC (j'+1))=CC i:=by rw [hc,aC2 hci]
  rw [ex] at r3 r4 r6 r7 r8 r9
  obtain⟨m,m1,m2⟩:=(hs (BB i q)).1 ⟨q,q1,rfl⟩
  have l:=aCb (h.si i (by omega)) (h.si (j'+1) hj) hs q1 m1 m2 (x:=CC i) (by omega) q2
  have e:=r4 m m1 l
  rw [e,r5,q6] at m2
  have hci1:=(h.si (i+1) (by omega)).hc
  have s2:∀v,mem n (BB (i+1)) v↔mem n (BB j') v:=fun v=>by rw [q9,r8,hs v,m2]
  by_cases e2:i+1=j'
  ·subst e2
   rcases aMG (n:=n) (x:=CC (i+1)) (by omega) with h1|h1
   ·exact h1 m2.symm
   ·omega
  ·exact h.turn g (i+1) j' (by omega) (by omega) (by omega) m2 s2
end
theorem pig:∀(n m:Nat) (f:Nat→Nat),(∀i,i<n→f i<m)→(∀i j,i<n→j<n→f i=f j→i=j)→n≤m
 |0,m,f,_,_=>Nat.zero_le _
 |n+1,m,f,h1,h2=>by
  have h3:=h1 n (by omega)
  have:=pig n (m-1) (fun i=>if f i<f n then f i else f i-1) (fun i hi=>by
   have a:=h1 i (by omega)
   have b:f i≠f n:=fun e=>by have:=h2 i n (by omega) (by omega) e;omega
   show(if f i<f n then f i else f i-1)<m-1
   split<;>omega) (fun i j hi hj e=>by
   have b:f i≠f n:=fun e=>by have:=h2 i n (by omega) (by omega) e;omega
   have c:f j≠f n:=fun e=>by have:=h2 j n (by omega) (by omega) e;omega
   refine h2 i j (by omega) (by omega) ?_
   have e':(if f i<f n then f i else f i-1)=(if f j<f n then f j else f j-1):=e
   split at e'<;>split at e'<;>omega)
  omega
def z8 (n v:Nat):Nat:=if v<n then v else v-n
theorem aCr {n u v:Nat} (hu:u<2*n) (hv:v<2*n) (h:z8 n u=z8 n v):u=v∨u=cpl n v:=by
 unfold z8 at h;unfold cpl
 split at h<;>split at h<;>split<;>omega
theorem aDF {n v:Nat} (h:v<2*n):z8 n v<n:=by unfold z8;split<;>omega
theorem aMc {n:Nat} {Z T T':Nat→Nat→Rat} {b b':Nat→Nat} {c c':Nat} (h:SI n Z T b c) (h':SI n Z T' b' c') (hm:∀v,mem n b v↔mem n b' v):c'=c∨c'=cpl n c:=by
 refine Classical.byContradiction fun hno=>?_
 have hc:=h.hc
 have hc':=h'.hc
 have hd:z8 n c≠z8 n c':=fun e=>hno (aCr hc' hc e.symm)
 have no':∀i,i<n→b i≠c'∧b i≠cpl n c':=fun i hi=>by
  obtain⟨j,hj,e⟩:=(hm (b i)).1 ⟨i,hi,rfl⟩
  exact⟨fun e2=>h'.cb.nc j hj (by rw [e,e2]),fun e2=>h'.cb.np hc' j hj (by rw [e,e2])⟩
 let f:Nat→Nat:=fun i=>if b i=2*n then z8 n c else z8 n (b i)
 have lt:∀i,i<n→b i≠2*n→b i<2*n:=fun i hi hne=>by have:=h.hb i hi;omega
 have f1:∀i,i<n→f i<n:=fun i hi=>by
  show(if b i=2*n then z8 n c else z8 n (b i))<n
  by_cases e:b i=2*n
  ·rw [if_pos e];exact aDF hc
  ·rw [if_neg e];exact aDF (lt i hi e)
 have f2:∀i,i<n→f i≠z8 n c':=fun i hi=>by
  show(if b i=2*n then z8 n c else z8 n (b i))≠z8 n c'
  by_cases e:b i=2*n
  ·rw [if_pos e];exact hd
  ·rw [if_neg e]
   intro e2
   rcases aCr (lt i hi e) hc' e2 with h1|h1
   ·exact(no' i hi).1 h1
   ·exact(no' i hi).2 h1
 have f3:∀i j,i<n→j<n→f i=f j→i=j:=fun i j hi hj e=>by
  have e':(if b i=2*n then z8 n c else z8 n (b i))=(if b j=2*n then z8 n c else z8 n (b j)):=e
  by_cases e1:b i=2*n
  ·by_cases e2:b j=2*n
   ·exact h.inj i j hi hj (by rw [e1,e2])
   ·rw [if_pos e1,if_neg e2] at e'
    rcases aCr (lt j hj e2) hc e'.symm with h1|h1
    ·exact absurd h1 (h.cb.nc j hj)
    ·exact absurd h1 (h.cb.np hc j hj)
  ·by_cases e2:b j=2*n
   ·rw [if_neg e1,if_pos e2] at e'
    rcases aCr (lt i hi e1) hc e' with h1|h1
    ·exact absurd h1 (h.cb.nc i hi)
    ·exact absurd h1 (h.cb.np hc i hi)
   ·rw [if_neg e1,if_neg e2] at e'
    rcases aCr (lt i hi e1) (lt j hj e2) e' with h1|h1
    ·exact h.inj i j hi hj h1
    ·exact absurd h1 (h.cb.pr j i hj hi (lt j hj e2))
 have hq:=aDF hc'
 have:=pig n (n-1) (fun i=>if f i<z8 n c' then f i else f i-1) (fun i hi=>by
  have a:=f1 i hi
  have b:=f2 i hi
  show(if f i<z8 n c' then f i else f i-1)<n-1
  split<;>omega) (fun i j hi hj e=>by
  have a:=f2 i hi
  have b:=f2 j hj
  refine f3 i j hi hj ?_
  have e':(if f i<z8 n c' then f i else f i-1)=(if f j<z8 n c' then f j else f j-1):=e
  split at e'<;>split at e'<;>omega)
 omega
theorem Run.distinct {n N:Nat} {Z:Nat→Nat→Rat} {TT:Nat→Nat→Nat→Rat} {BB:Nat→Nat→Nat} {CC:Nat→Nat} (h:Run n Z TT BB CC N) {i j:Nat} (hij:i<j) (hj:j≤N) (hs:∀v,mem n (BB i) v↔mem n (BB j) v):False:=by
 rcases aMc (h.si i (by omega)) (h.si j hj) hs with e|e
 ·exact h.key i j hij hj e.symm hs
 ·exact h.turn (j-i) i j (by omega) hij hj e hs
open Classical in
noncomputable def dg (n:Nat) (b:Nat→Nat) (j:Nat):Nat:=if mem n b j then 1 else if mem n b (n+j) then 2 else 0
noncomputable def cde (n:Nat) (b:Nat→Nat):Nat→Nat
 |0=>0
 |j+1=>3*cde n b j+dg n b j
theorem aKo {n:Nat} {b:Nat→Nat} {j:Nat}:dg n b j≤2:=by unfold dg;split;omega;split<;>omega
theorem aMA {n:Nat} {b:Nat→Nat}:∀m,cde n b m<3^m
 |0=>Nat.one_pos
 |m+1=>by
  have:=aMA (n:=n) (b:=b) m
  have:=aKo (n:=n) (b:=b) (j:=m)
  show 3*cde n b m+dg n b m<3^(m+1)
  rw [Nat.pow_succ];omega
theorem aKH {n:Nat} {b:Nat→Nat} {j:Nat} (h0:dg n b j=0):∀m,j<m→cde n b m+1<3^m
 |0,h=>by omega
 |m+1,h=>by
  have h1:=aMA (n:=n) (b:=b) m
  have h2:=aKo (n:=n) (b:=b) (j:=m)
  show 3*cde n b m+dg n b m+1<3^(m+1)
  rw [Nat.pow_succ]
  by_cases e:j=m
  ·subst e;rw [h0];omega
  ·have:=aKH h0 m (by omega);omega
theorem aKa {n:Nat} {b b':Nat→Nat}:∀m,cde n b m=cde n b' m→∀j,j<m→dg n b j=dg n b' j
 |0,_,j,hj=>by omega
 |m+1,h,j,hj=>by
  have h1:=aKo (n:=n) (b:=b) (j:=m)
  have h2:=aKo (n:=n) (b:=b') (j:=m)
  have h3:3*cde n b m+dg n b m=3*cde n b' m+dg n b' m:=h
  by_cases e:j=m
  ·subst e;omega
  ·exact aKa m (by omega) j (by omega)
theorem SI.last {n:Nat} {Z T:Nat→Nat→Rat} {b:Nat→Nat} {c:Nat} (h:SI n Z T b c):mem n b (2*n):=by
 refine Classical.byContradiction fun hno=>?_
 have hc:=h.hc
 have lt:∀i,i<n→b i<2*n:=fun i hi=>by
  have:=h.hb i hi
  have:b i≠2*n:=fun e=>hno ⟨i,hi,e⟩
  omega
 have hq:=aDF hc
 have f2:∀i,i<n→z8 n (b i)≠z8 n c:=fun i hi e=>by
  rcases aCr (lt i hi) hc e with h1|h1
  ·exact h.cb.nc i hi h1
  ·exact h.cb.np hc i hi h1
 have:=pig n (n-1) (fun i=>if z8 n (b i)<z8 n c then z8 n (b i) else z8 n (b i)-1) (fun i hi=>by
  have a:=aDF (lt i hi)
  have b:=f2 i hi
  show(if z8 n (_)<z8 n c then _ else _)<n-1
  split<;>omega) (fun i j hi hj e=>by
  have a:=f2 i hi
  have b':=f2 j hj
  have e':(if z8 n (b i)<z8 n c then z8 n (b i) else z8 n (b i)-1)=(if z8 n (b j)<z8 n c then z8 n (b j) else z8 n (b j)-1):=e
  have e3:z8 n (b i)=z8 n (b j):=by split at e'<;>split at e'<;>omega
  rcases aCr (lt i hi) (lt j hj) e3 with h1|h1
  ·exact h.inj i j hi hj h1
  ·exact absurd h1 (h.cb.pr j i hj hi (lt j hj)))
 omega
theorem aQi {n:Nat} {b b':Nat→Nat} (hb:∀i,i<n→b i≤2*n) (hp:∀i j,i<n→j<n→b i<2*n→b j≠cpl n (b i)) (hb':∀i,i<n→b' i≤2*n) (hp':∀i j,i<n→j<n→b' i<2*n→b' j≠cpl n (b' i)) (h:∀j,j<n→dg n b j=dg n b' j) (hl:mem n b (2*n)↔mem n b' (2*n)) (v:Nat):mem n b v↔mem n b' v:=by
 have both:∀{b:Nat→Nat},(∀i j,i<n→j<n→b i<2*n→b j≠cpl n (b i))→∀j,j<n→mem n b j→¬mem n b (n+j):=fun hp j hj h1 h2=>by
  obtain⟨i,i1,i2⟩:=h1
  obtain⟨k,k1,k2⟩:=h2
  refine hp i k i1 k1 (by omega) ?_
  rw [k2,i2];unfold cpl;rw [if_pos hj];omega
 by_cases e1:v<n
 ·have:=h v e1
  unfold dg at this
  constructor
  ·intro h1;rw [if_pos h1] at this
   refine Classical.byContradiction fun h2=>?_
   rw [if_neg h2] at this;split at this<;>omega
  ·intro h1;rw [if_pos h1] at this
   refine Classical.byContradiction fun h2=>?_
   rw [if_neg h2] at this;split at this<;>omega
 ·by_cases e2:v<2*n
  ·obtain⟨j,rfl⟩:∃j,v=n+j:=⟨v-n,by omega⟩
   have hj:j<n:=by omega
   have:=h j hj
   unfold dg at this
   constructor
   ·intro h1
    rw [if_neg (fun h3=>both hp j hj h3 h1),if_pos h1] at this
    refine Classical.byContradiction fun h2=>?_
    rw [if_neg h2] at this;split at this<;>omega
   ·intro h1
    rw [if_neg (fun h3=>both hp' j hj h3 h1),if_pos h1] at this
    refine Classical.byContradiction fun h2=>?_
    rw [if_neg h2] at this;split at this<;>omega
  ·by_cases e3:v=2*n
   ·rw [e3];exact hl
   ·constructor
    ·rintro⟨i,i1,i2⟩;have:=hb i i1;omega
    ·rintro⟨i,i1,i2⟩;have:=hb' i i1;omega
theorem Run.short {n N:Nat} {Z:Nat→Nat→Rat} {TT:Nat→Nat→Nat→Rat} {BB:Nat→Nat→Nat} {CC:Nat→Nat} (h:Run n Z TT BB CC N):N+2≤3^n:=by
 have hc0:=(h.si 0 (by omega)).hc
 have lt:∀k,k<N+1→cde n (BB k) n<3^n-1:=fun k hk=>by
  have hs:=h.si k (by omega)
  have hc:=hs.hc
  have h0:dg n (BB k) (z8 n (CC k))=0:=by
   have a1:¬mem n (BB k) (CC k):=fun⟨i,i1,i2⟩=>hs.cb.nc i i1 i2
   have a2:¬mem n (BB k) (cpl n (CC k)):=fun⟨i,i1,i2⟩=>hs.cb.np hc i i1 i2
   unfold dg z8
   unfold cpl at a2
   by_cases e:CC k<n
   ·rw [if_pos e] at a2 ⊢
    rw [if_neg a1,if_neg (by rw [Nat.add_comm];exact a2)]
   ·rw [if_neg e] at a2 ⊢
    rw [if_neg a2,if_neg (by rw [show n+(CC k-n)=CC k by omega];exact a1)]
  have:=aKH h0 n (aDF hc)
  omega
 have:=pig (N+1) (3^n-1) (fun k=>cde n (BB k) n) lt (fun i j hi hj e=>by
  have same:∀v,mem n (BB i) v↔mem n (BB j) v:=by
   have si:=h.si i (by omega)
   have sj:=h.si j (by omega)
   exact aQi si.hb si.cb.pr sj.hb sj.cb.pr (aKa n e) ⟨fun _=>sj.last,fun _=>si.last⟩
  rcases Nat.lt_trichotomy i j with h1|h1|h1
  ·exact(h.distinct h1 (by omega) same).elim
  ·exact h1
  ·exact(h.distinct h1 (by omega) fun v=>(same v).symm).elim)
 omega
end Go.Proofs.YtolfcbpgmfbgmaaGreat
set_option linter.unusedVariables false
namespace Go.Proofs.YtolfcbpgmfbgmaaGreat
end Go.Proofs.YtolfcbpgmfbgmaaGreat
set_option linter.unusedVariables false
namespace Go.Proofs.YtolfcbpgmfbgmaaGreat
end Go.Proofs.YtolfcbpgmfbgmaaGreat
set_option linter.unusedVariables false
namespace Go.Proofs.YtolfcbpgmfbgmaaGreat
theorem dn_q {p q:Int} {m:Nat} (hp:p.natAbs≤m) (h1:1≤q) (h3:q≤3):dn 6 1 (6*m) ((p:Rat)/q):=by
 have key:∀k:Int,((q:Rat)⁻¹)*6=(k:Rat)→k.natAbs≤6→dn 6 1 (6*m) ((p:Rat)/q):=fun k hk hk6=>
  ⟨p*k,by
   have e:((6^1:Nat):Rat)=6:=rfl
   rw [Rat.div_def,Rat.intCast_mul,←hk,e,Rat.mul_assoc],by rw [Int.natAbs_mul,Nat.mul_comm];exact Nat.mul_le_mul hk6 hp⟩
 obtain rfl|rfl|rfl:q=1∨q=2∨q=3:=by omega
 ·exact key 6 (by decide+kernel) (by decide)
 ·exact key 3 (by decide+kernel) (by decide)
 ·exact key 2 (by decide+kernel) (by decide)
theorem aDx {p q:Int} {m:Nat} (hp:p.natAbs≤m) (h1:1≤q) (h3:q≤3) (hm:m≤100):∃r,qof p q=some r∧dn 6 1 (6*m) r:=by
 obtain⟨r,r1,r2,_⟩:=aMx (k:=8) (p:=p) (q:=q) (by omega) (by omega) (by omega) (by omega)
 exact⟨r,r1,by rw [r2];exact dn_q hp h1 h3⟩
theorem aDX {x:Rat} (h:dn 6 2 4000 x):Bd 12 x:=by
 obtain⟨z,h1,h2⟩:=h
 have e:((6^2:Nat):Rat)=36:=rfl
 have h36:((36:Int):Rat)≠0:=by decide+kernel
 have e2:((36:Int):Rat)=36:=rfl
 have:x=(z:Rat)/((36:Int):Rat):=by
  rw [←h1,e,e2,Rat.div_def,Rat.mul_assoc,Rat.mul_inv_cancel _ (by rw [←e2];exact h36),Rat.mul_one]
 rw [this]
 exact Bd.of (by omega) (by omega) (by decide)
theorem aIS {m:Nat} {x:Rat} (h:dn 6 1 m x) (hm:m*6≤4000):dn 6 2 4000 x:=h.up.mono hm
theorem aK0 {x:Int} (hx:0≤x∧x<60):∃r,jI x=some r∧dn 6 1 24 r:=by
 obtain⟨v,v1,v2,v3⟩:=aBO (x:=x) (by omega) (m:=60) (by omega)
 unfold jI
 rw [v1,oB]
 by_cases h:v<24
 ·exact⟨0,by rw [dT h,bY],dn.zero⟩
 ·have m9:=aMa (a:=v) (m:=9) v2 (by omega)
  have m3:=aMa (a:=v/9) (m:=3) (by omega) (by omega)
  obtain⟨r,r1,r2⟩:=aDx (p:=v%9-4) (q:=1+v/9%3) (m:=4) (by omega) (by omega) (by omega) (by omega)
  exact⟨r,by rw [dF h,bU,tG v2 (by omega),oB,oX (by omega),oB,wB v2 (by omega) (by omega),oB,tG (by omega) (by omega),oB,oX (by omega),oB,r1,oB],r2⟩
def vn (l:List Int) (j:Nat):Rat:=((cD l (j:Int) 60).bind jI).getD 0
def mvn (l:List Int) (r c:Nat):Rat:=vn l (3+6*r+c)
def vw (l:List Int) (i:Nat):Rat:=((cD l ((40+i:Nat):Int) 13).bind fun a=>(cD l ((47+i:Nat):Int) 2).bind fun b=>qof (a-8) (1+b)).getD 0
theorem aMj {l:List Int} (hl:aA1 l) (r c:Nat):∃v,cD l ((3+6*r+c:Nat):Int) 60=some v∧jI v=some (mvn l r c)∧dn 6 1 24 (mvn l r c):=by
 obtain⟨v,v1,v2,v3⟩:=aEK hl ((3+6*r+c:Nat):Int) (m:=60) (by omega)
 obtain⟨x,x1,x2⟩:=aK0 ⟨v2,v3⟩
 have e:mvn l r c=x:=by unfold mvn vn;rw [v1,oB,x1];rfl
 exact⟨v,v1,by rw [e];exact x1,by rw [e];exact x2⟩
theorem aOC {l:List Int} (hl:aA1 l) (i:Nat):∃a b,cD l ((40+i:Nat):Int) 13=some a∧aQ (a-8)=some (a-8)∧cD l ((47+i:Nat):Int) 2=some b∧aQ (1+b)=some (1+b)∧qof (a-8) (1+b)=some (vw l i)∧dn 6 1 48 (vw l i):=by
 obtain⟨a,a1,a2,a3⟩:=aEK hl ((40+i:Nat):Int) (m:=13) (by omega)
 obtain⟨b,b1,b2,b3⟩:=aEK hl ((47+i:Nat):Int) (m:=2) (by omega)
 obtain⟨r,r1,r2⟩:=aDx (p:=a-8) (q:=1+b) (m:=8) (by omega) (by omega) (by omega) (by omega)
 have e:vw l i=r:=by unfold vw;rw [a1,oB,b1,oB,r1];rfl
 exact⟨a,b,a1,oX (by omega),b1,oX (by omega),by rw [e];exact r1,by rw [e];exact r2⟩
theorem aHa {l:List Int} (hl:aA1 l) (r c:Nat):dn 6 1 24 (mvn l r c):=by
 obtain⟨_,_,_,h⟩:=aMj hl r c
 exact h
theorem aRh {l:List Int} (hl:aA1 l) (i:Nat):dn 6 1 48 (vw l i):=by
 obtain⟨_,_,_,_,_,_,_,h⟩:=aOC hl i
 exact h
theorem aLS {l:List Int} (hl:aA1 l) (r c:Nat):Bd 12 (mvn l r c):=aDX (aIS (aHa hl r c) (by omega))
theorem aJs {l:List Int} (hl:aA1 l) {n r:Nat} (hr:r≤10) (hn:n≤10) (K:Nat):∀(t i k:Nat),i+t=n→t<k→eJ K l (n:Int) (r:Int) k (mp (mvn l r) i) (i:Int)=some (mp (mvn l r) n)
 |0,i,k,hi,hk=>by
  have:i=n:=by omega
  subst this
  obtain⟨k',rfl,_⟩:=bB hk
  simp only [eJ,dF (show¬(i:Int)<(i:Int) by omega),bU]
 |t+1,i,k,hi,hk=>by
  obtain⟨k',rfl,hk'⟩:=bB hk
  have e1:aQ (6*(r:Int))=some ((6*r:Nat):Int):=zH (m:=0) (by omega) (by omega)
  have e2:aQ (3+((6*r:Nat):Int))=some ((3+6*r:Nat):Int):=zH (m:=0) (by omega) (by omega)
  have e3:aQ (((3+6*r:Nat):Int)+(i:Int))=some ((3+6*r+i:Nat):Int):=zH (m:=0) (by omega) (by omega)
  obtain⟨v,v1,v2,_⟩:=aMj hl r i
  simp only [eJ,dT (show(i:Int)<(n:Int) by omega),bY,e1,e2,e3,oB,v1,v2,apM (g:=mvn l r) (i:=i) (by omega),sW (i:=i) (by omega)]
  exact aJs hl hr hn K t (i+1) k' (by omega) (by omega)
theorem aNA {l:List Int} (hl:aA1 l) {n:Nat} (hn:n≤10) {K:Nat} (hK:n<K):∀(t i k:Nat),i+t=n→t<k→dO K l (n:Int) k (mp (vw l) i) (mx (mvn l) i n) (i:Int)=some (mp (vw l) n,mx (mvn l) n n)
 |0,i,k,hi,hk=>by
  have:i=n:=by omega
  subst this
  obtain⟨k',rfl,_⟩:=bB hk
  simp only [dO,dF (show¬(i:Int)<(i:Int) by omega),bU]
 |t+1,i,k,hi,hk=>by
  obtain⟨k',rfl,hk'⟩:=bB hk
  have h1:=aJs hl (n:=n) (r:=i) (by omega) hn K n 0 K (by omega) hK
  simp only [Int.natCast_zero,vA] at h1
  have e1:aQ (40+(i:Int))=some ((40+i:Nat):Int):=zH (m:=0) (by omega) (by omega)
  have e2:aQ (47+(i:Int))=some ((47+i:Nat):Int):=zH (m:=0) (by omega) (by omega)
  have e3:rM (mx (mvn l) i n) [mp (mvn l i) n]=some (mx (mvn l) (i+1) n):=apM (g:=fun r=>mp (mvn l r) n) (by omega)
  obtain⟨a,b,a1,a2,b1,b2,c1,_⟩:=aOC hl i
  simp only [dO,dT (show(i:Int)<(n:Int) by omega),bY,h1,oB,lL,e3,e1,a1,a2,e2,b1,b2,c1,apM (g:=vw l) (i:=i) (by omega),sW (i:=i) (by omega)]
  exact aNA hl hn hK t (i+1) k' (by omega) (by omega)
def gm (l:List Int) (n i k:Nat):Rat:=sm (fun c=>mvn l i c*mvn l k c) n
def gmd (d:Bool) (l:List Int) (n i k:Nat):Rat:=if d=true∧k=i then gm l n i i+1 else gm l n i k
theorem aOQ {f:Nat→Rat} {D e M:Nat}:∀n,(∀c,c<n→dn D e M (f c))→dn D e (n*M) (sm f n)
 |0,_=>dn.zero
 |n+1,h=>by
  rw [Nat.succ_mul]
  exact(aOQ n fun c hc=>h c (by omega)).add (h n (by omega))
theorem aKt {l:List Int} (hl:aA1 l) {n:Nat} (hn:n≤6) (i k:Nat):dn 6 2 3500 (gm l n i k):=
 (aOQ (M:=576) n fun c _=>(aHa hl i c).mul (aHa hl k c)).mono (by omega)
theorem aGf:dn 6 2 36 (1:Rat):=⟨36,by decide+kernel,by decide⟩
theorem aNo {d:Bool} {l:List Int} (hl:aA1 l) {n:Nat} (hn:n≤6) (i k:Nat):dn 6 2 4000 (gmd d l n i k):=by
 unfold gmd
 split
 ·exact((aKt hl hn i i).add aGf).mono (by omega)
 ·exact(aKt hl hn i k).mono (by omega)
theorem aLZ {l:List Int} (hl:aA1 l) {n:Nat} (hn:n≤6) {K:Nat} (hK:n<K) (i k:Nat):lX K (mp (mvn l i) n) (mp (mvn l k) n)=some (gm l n i k):=
 (aQp (fun c _=>aLS hl i c) (fun c _=>aLS hl k c) (by omega) (by omega) hK).2
theorem aKD {l:List Int} (hl:aA1 l) {n i:Nat} (hi:i<n) (hn:n≤6) {K:Nat} (hK:n<K):∀(t c k:Nat),c+t=n→t<k→eH K (n:Int) (mx (mvn l) n n) (i:Int) k (mp (gm l n i) c) (c:Int)=some (mp (gm l n i) n)
 |0,c,k,hc,hk=>by
  have:c=n:=by omega
  subst this
  obtain⟨k',rfl,_⟩:=bB hk
  simp only [eH,dF (show¬(c:Int)<(c:Int) by omega),bU]
 |t+1,c,k,hc,hk=>by
  obtain⟨k',rfl,hk'⟩:=bB hk
  simp only [eH,dT (show(c:Int)<(n:Int) by omega),bY,xN (g:=mvn l) (w:=n) hi,xN (g:=mvn l) (w:=n) (show c<n by omega),oB,aLZ hl hn hK i c,apM (g:=gm l n i) (i:=c) (by omega),sW (i:=c) (by omega)]
  exact aKD hl hi hn hK t (c+1) k' (by omega) (by omega)
theorem aJD {l:List Int} (hl:aA1 l) {n i:Nat} (hi:i<n) (hn:n≤6) {K:Nat} (hK:n<K):∀(t c k:Nat),c+t=n→t<k→eR K (n:Int) (mx (mvn l) n n) (i:Int) k (mp (gm l n i) c) (c:Int)=some (mp (gm l n i) n)
 |0,c,k,hc,hk=>by
  have:c=n:=by omega
  subst this
  obtain⟨k',rfl,_⟩:=bB hk
  simp only [eR,dF (show¬(c:Int)<(c:Int) by omega),bU]
 |t+1,c,k,hc,hk=>by
  obtain⟨k',rfl,hk'⟩:=bB hk
  simp only [eR,dT (show(c:Int)<(n:Int) by omega),bY,xN (g:=mvn l) (w:=n) hi,xN (g:=mvn l) (w:=n) (show c<n by omega),oB,aLZ hl hn hK i c,apM (g:=gm l n i) (i:=c) (by omega),sW (i:=c) (by omega)]
  exact aJD hl hi hn hK t (c+1) k' (by omega) (by omega)
theorem aSc:Bd 12 (1:Rat):=aDX (aGf.mono (by omega))
theorem aJn {d:Bool} {l:List Int} {n i:Nat} (hi:i<n):(if d=true then mp (kX (gm l n i) i (gm l n i i+1)) n else mp (gm l n i) n)=mp (gmd d l n i) n:=by
 cases d with
 |true=>
  rw [if_pos rfl]
  refine gS fun j hj=>?_
  unfold gmd
  by_cases e:j=i
  ·subst e;rw [aT,if_pos ⟨rfl,rfl⟩]
  ·rw [bN e,if_neg (fun h=>e h.2)]
 |false=>
  rw [if_neg (by decide)]
  exact gS fun j hj=>by unfold gmd;rw [if_neg (fun h=>absurd h.1 (by decide))]
theorem aJ2 {l:List Int} (hl:aA1 l) {n:Nat} {v5:Int} (hn:n≤6) {K:Nat} (hK:n<K):∀(t i k:Nat),i+t=n→t<k→cK K (n:Int) v5 (mx (mvn l) n n) k (mx (gmd (v5==2) l n) i n) (i:Int)=some (mx (gmd (v5==2) l n) n n)
 |0,i,k,hi,hk=>by
  have:i=n:=by omega
  subst this
  obtain⟨k',rfl,_⟩:=bB hk
  simp only [cK,dF (show¬(i:Int)<(i:Int) by omega),bU]
 |t+1,i,k,hi,hk=>by
  obtain⟨k',rfl,hk'⟩:=bB hk
  have h1:=aKD hl (n:=n) (i:=i) (by omega) hn hK n 0 K (by omega) hK
  simp only [Int.natCast_zero,vA] at h1
  have e3:rM (mx (gmd (v5==2) l n) i n) [mp (gmd (v5==2) l n i) n]=some (mx (gmd (v5==2) l n) (i+1) n):=apM (g:=fun r=>mp (gmd (v5==2) l n r) n) (by omega)
  have e4:=aJn (d:=v5==2) (l:=l) (show i<n by omega)
  have b1:Bd 12 (gm l n i i):=aDX ((aKt hl hn i i).mono (by omega))
  have ih:=aJ2 hl (v5:=v5) hn hK t (i+1) k' (by omega) (by omega)
  simp only [cK,dT (show(i:Int)<(n:Int) by omega),bY,h1,oB,lN]
  cases hd:(v5==2) with
  |true=>
   rw [hd] at e3 e4 ih
   rw [if_pos rfl] at e4
   simp only [bY,dW (f:=gm l n i) (show i<n by omega),oB,aJI,aC0 b1 aSc (by omega) (by omega),w6 (f:=gm l n i) (show i<n by omega),e4,e3,sW (i:=i) (by omega)]
   exact ih
  |false=>
   rw [hd] at e3 e4 ih
   rw [if_neg (by decide)] at e4
   simp only [bU,e4,e3,oB,sW (i:=i) (by omega)]
   exact ih
theorem aJo {l:List Int} (hl:aA1 l) {n:Nat} {v5:Int} (hn:n≤6) {K:Nat} (hK:n<K):∀(t i k:Nat),i+t=n→t<k→cN K (n:Int) v5 (mx (mvn l) n n) k (mx (gmd (v5==2) l n) i n) (i:Int)=some (mx (gmd (v5==2) l n) n n)
 |0,i,k,hi,hk=>by
  have:i=n:=by omega
  subst this
  obtain⟨k',rfl,_⟩:=bB hk
  simp only [cN,dF (show¬(i:Int)<(i:Int) by omega),bU]
 |t+1,i,k,hi,hk=>by
  obtain⟨k',rfl,hk'⟩:=bB hk
  have h1:=aJD hl (n:=n) (i:=i) (by omega) hn hK n 0 K (by omega) hK
  simp only [Int.natCast_zero,vA] at h1
  have e3:rM (mx (gmd (v5==2) l n) i n) [mp (gmd (v5==2) l n i) n]=some (mx (gmd (v5==2) l n) (i+1) n):=apM (g:=fun r=>mp (gmd (v5==2) l n r) n) (by omega)
  have e4:=aJn (d:=v5==2) (l:=l) (show i<n by omega)
  have b1:Bd 12 (gm l n i i):=aDX ((aKt hl hn i i).mono (by omega))
  have ih:=aJo hl (v5:=v5) hn hK t (i+1) k' (by omega) (by omega)
  simp only [cN,dT (show(i:Int)<(n:Int) by omega),bY,h1,oB,lK]
  cases hd:(v5==2) with
  |true=>
   rw [hd] at e3 e4 ih
   rw [if_pos rfl] at e4
   simp only [bY,dW (f:=gm l n i) (show i<n by omega),oB,aJI,aC0 b1 aSc (by omega) (by omega),w6 (f:=gm l n i) (show i<n by omega),e4,e3,sW (i:=i) (by omega)]
   exact ih
  |false=>
   rw [hd] at e3 e4 ih
   rw [if_neg (by decide)] at e4
   simp only [bU,e4,e3,oB,sW (i:=i) (by omega)]
   exact ih
theorem aRS {α:Type} {f:Nat→α} {n m:Nat} (h:m≤n):slL (mp f n) 0 (m:Int)=some (mp f m):=by
 unfold slL
 rw [if_pos ⟨by omega,by omega,by rw [aZ];omega⟩]
 congr 1
 apply List.ext_getElem?
 intro j
 have e0:(0:Int).toNat=0:=rfl
 rw [e0,List.drop_zero,List.getElem?_take,Int.toNat_natCast,Nat.sub_zero]
 by_cases hj:j<m
 ·rw [if_pos hj,xV (by omega),xV hj]
 ·rw [if_neg hj,List.getElem?_eq_none (by rw [aZ];omega)]
def PB6 (n:Nat) (M:Nat→Nat→Rat) (q:Nat→Rat):Prop:=(∀i c,i<n→c<n→dn 6 2 4000 (M i c))∧∀i,i<n→dn 6 2 4000 (q i)
theorem aI4 {l:List Int} (hl:aA1 l) {most:Nat} (hm:most≤6) (hm1:4≤most):∃(n:Nat) (M:Nat→Nat→Rat) (q:Nat→Rat),n≤most∧PB6 n M q∧∀K,100≤K→kG K l (most:Int)=some (mx M n n,mp q n):=by
 obtain⟨v,v1,v2,v3⟩:=aEK hl 0 (m:=((most+1:Nat):Int)) (by omega)
 obtain⟨w,w1,w2,w3⟩:=aEK hl 1 (m:=5) (by omega)
 obtain⟨n,rfl⟩:∃n:Nat,v=n:=⟨v.toNat,by omega⟩
 have e0:aQ ((most:Int)+1)=some ((most+1:Nat):Int):=sW (by omega)
 have hq:∀i,dn 6 2 4000 (vw l i):=fun i=>aIS (aRh hl i) (by omega)
 have hM:∀i c,dn 6 2 4000 (mvn l i c):=fun i c=>aIS (aHa hl i c) (by omega)
 have hF:∀K,100≤K→kG K l (most:Int)=cT K l (n:Int) w (mp (vw l) n) (mx (mvn l) n n):=fun K hK=>by
  have h1:=aNA hl (n:=n) (by omega) (K:=K) (by omega) n 0 K (by omega) (by omega)
  have z:mx (mvn l) 0 n=[]:=rfl
  simp only [Int.natCast_zero,vA,z] at h1
  simp only [kG,e0,oB,v1,w1,h1]
 have hG:∀K,100≤K→cK K (n:Int) w (mx (mvn l) n n) K [] 0=some (mx (gmd (w==2) l n) n n):=fun K hK=>by
  have h1:=aJ2 hl (n:=n) (v5:=w) (by omega) (K:=K) (by omega) n 0 K (by omega) (by omega)
  have z:mx (gmd (w==2) l n) 0 n=[]:=rfl
  simpa only [Int.natCast_zero,z] using h1
 have hG':∀K,100≤K→cN K (n:Int) w (mx (mvn l) n n) K [] 0=some (mx (gmd (w==2) l n) n n):=fun K hK=>by
  have h1:=aJo hl (n:=n) (v5:=w) (by omega) (K:=K) (by omega) n 0 K (by omega) (by omega)
  have z:mx (gmd (w==2) l n) 0 n=[]:=rfl
  simpa only [Int.natCast_zero,z] using h1
 by_cases c0:w=0
 ·exact⟨n,mvn l,vw l,by omega,⟨fun i c _ _=>hM i c,fun i _=>hq i⟩,fun K hK=>by rw [hF K hK];unfold cT;rw [qT c0,bY]⟩
 by_cases c1:n=0
 ·exact⟨n,mvn l,vw l,by omega,⟨fun i c _ _=>hM i c,fun i _=>hq i⟩,fun K hK=>by rw [hF K hK];unfold cT;rw [qF c0,bU,qT (show(n:Int)=0 by omega),bY]⟩
 by_cases c4:w=4
 ·by_cases cn:4≤n
  ·obtain⟨m1,a1,a2,a3⟩:=aEK hl 2 (m:=4) (by omega)
   obtain⟨m2,b1,b2,b3⟩:=aEK hl 3 (m:=5) (by omega)
   obtain⟨mu,p1,p2⟩:=aDx (p:=m1) (q:=2) (m:=3) (by omega) (by omega) (by omega) (by omega)
   obtain⟨c,r1,r2⟩:=aDx (p:=m2-2) (q:=2) (m:=2) (by omega) (by omega) (by omega) (by omega)
   obtain⟨two,s1,s2⟩:=aDx (p:=2) (q:=1) (m:=2) (by omega) (by omega) (by omega) (by omega)
   obtain⟨mi,t1,t2⟩:=aDx (p:=-1) (q:=1) (m:=1) (by omega) (by omega) (by omega) (by omega)
   have d2:=aIS p2 (by omega)
   have d3:=aIS r2 (by omega)
   have d4:=aIS s2 (by omega)
   have d5:=aIS t2 (by omega)
   have d6:dn 6 2 4000 (1:Rat):=aGf.mono (by omega)
   have n1:=aBU (aDX d3) (by omega)
   have n2:=aBU (aDX d4) (by omega)
   have sl:slL (mp (vw l) n) 0 3=some (mp (vw l) 3):=aRS (m:=3) (by omega)
   have ap1:rM ([]:List Rat) (mp (vw l) 3)=some (mp (vw l) 3):=aDv (by rw [aZ];simp)
   have ap2:rM (mp (vw l) 3) [(0:Rat)]=some (mp (kX (vw l) 3 0) 4):=by
    rw [apS (by rw [aZ];omega),aBW (kX (vw l) 3 0) 3,aT,gS (f:=vw l) (g:=kX (vw l) 3 0) fun j hj=>(bN (by omega)).symm]
   refine⟨4,fun i j=>at' (([[two,c,-c,0],[c,two,-two,1],[-c,-two,two,1],[mu,mi,mi,0]]:List (List Rat)).getD i []) j,kX (vw l) 3 0,by omega,⟨fun i j hi hj=>?_,fun i hi=>?_⟩,fun K hK=>?_⟩
   ·obtain rfl|rfl|rfl|rfl:i=0∨i=1∨i=2∨i=3:=by omega
    all_goals
     obtain rfl|rfl|rfl|rfl:j=0∨j=1∨j=2∨j=3:=by omega
     all_goals first|exact d2|exact d3|exact d4|exact d5|exact d6|exact d3.neg|exact d4.neg|exact dn.zero
   ·by_cases e:i=3
    ·subst e;rw [aT];exact dn.zero
    ·rw [bN e];exact hq i
   ·rw [hF K hK]
    unfold cT
    rw [qF c0,bU,qF (show¬(n:Int)=0 by omega),bU,qT c4,bY,dT (show(4:Int)≤(n:Int) by omega),bY]
    simp only [aJI,oB,a1,p1,b1,oX (show -9223372036854775808≤m2-2∧m2-2≤9223372036854775807 by omega),r1,s1,t1,n1,n2,sl,ap1,ap2]
    rfl
  ·refine⟨n,gmd (w==2) l n,vw l,by omega,⟨fun i c _ _=>aNo hl (by omega) i c,fun i _=>hq i⟩,fun K hK=>?_⟩
   rw [hF K hK]
   unfold cT
   rw [qF c0,bU,qF (show¬(n:Int)=0 by omega),bU,qT c4,bY,dF (show¬(4:Int)≤(n:Int) by omega),bU,hG' K hK,oB,lJ]
 ·refine⟨n,gmd (w==2) l n,vw l,by omega,⟨fun i c _ _=>aNo hl (by omega) i c,fun i _=>hq i⟩,fun K hK=>?_⟩
  rw [hF K hK]
  unfold cT
  rw [qF c0,bU,qF (show¬(n:Int)=0 by omega),bU,qF c4,bU,hG K hK,oB,lQ]
theorem aHV {n most:Nat}:∀(f:Nat) (T:Nat→Nat→Rat) (b:Nat→Nat) (r c cnt:Nat),(lem n most f T b r c cnt).2≠0→(lem n most f T b r c cnt).1=⟨[],[],0⟩∧((lem n most f T b r c cnt).2=15∨(lem n most f T b r c cnt).2=16)
 |0,T,b,r,c,cnt,h=>⟨rfl,Or.inr rfl⟩
 |f+1,T,b,r,c,cnt,h=>by
  unfold lem at h ⊢
  split at h
  ·rename_i h1;rw [if_pos h1];exact⟨rfl,Or.inr rfl⟩
  ·rename_i h1
   rw [if_neg h1]
   split at h
   ·exact absurd rfl h
   ·rename_i h2
    rw [if_neg h2]
    split at h
    ·exact⟨rfl,Or.inl rfl⟩
    ·exact aHV f _ _ _ _ _ h
theorem aKP {n most:Nat} {M:Nat→Nat→Rat} {q:Nat→Rat} (h:(w9 M q n most).2≠0):(w9 M q n most).1=⟨[],[],0⟩∧((w9 M q n most).2=15∨(w9 M q n most).2=16):=by
 unfold w9 at h ⊢
 cases hneg:ng q n 0
 ·rw [hneg,bU] at h;exact absurd rfl h
 ·rw [hneg,bY] at h;rw [bY];exact aHV _ _ _ _ _ _ h
theorem aF5 {l:List Rat} {b:Nat} (hb:Bds b l) (hB:b≤1000000) (hl:l.length≤1000000) (K:Nat):∀(t i k:Nat),i+t=l.length→t<k→iO K l l k (i:Int)=some (.go ())
 |0,i,k,hi,hk=>by
  obtain⟨k',rfl,_⟩:=bB hk
  simp only [iO,dF (show¬(i:Int)<(l.length:Int) by omega),bU]
 |t+1,i,k,hi,hk=>by
  obtain⟨k',rfl,hk'⟩:=bB hk
  have h1:=hb _ (aCq (l:=l) (i:=i) (by omega))
  simp only [iO,dT (show(i:Int)<(l.length:Int) by omega),bY,aKQ (l:=l) (i:=i) (by omega),oB,aHs h1 h1 (by omega) (by omega),decide_true,Bool.not_true,bU,sW (i:=i) (by omega)]
  exact aF5 hb hB hl K t (i+1) k' (by omega) (by omega)
theorem aIK {l:List Rat} {b:Nat} (hb:Bds b l) (hB:b≤1000000) (hl:l.length≤1000000) {K:Nat} (hK:l.length<K):fW K l l=some true:=by
 have h1:=aF5 hb hB hl K l.length 0 K (by omega) hK
 simp only [Int.natCast_zero] at h1
 simp only [fW,nF (rfl:(l.length:Int)=(l.length:Int)),bU,h1,oB,pU]
end Go.Proofs.YtolfcbpgmfbgmaaGreat
set_option linter.unusedVariables false
namespace Go.Proofs.YtolfcbpgmfbgmaaGreat
set_option maxRecDepth 100000 in
theorem aOe (K:Nat):oH (K+60)=some true:=by kernel_rfl
theorem aI2 {K:Nat} (hK:60≤K):oH K=some true:=by
 obtain⟨k,rfl⟩:=Nat.exists_eq_add_of_le hK
 rw [Nat.add_comm];exact aOe k
end Go.Proofs.YtolfcbpgmfbgmaaGreat
set_option linter.unusedVariables false
namespace Go.Proofs.YtolfcbpgmfbgmaaGreat
theorem aC8 {w b B:Nat} (h:w*(b+1)≤B) (hw:0<w):b+1≤B:=Nat.le_trans (Nat.le_mul_of_pos_left (b+1) hw) h
theorem aLG {f:Nat→Rat} {w b:Nat} (hf:∀c,c<w→Bd b (f c)) (hB:w*(b+1)≤1000000000) (hw:w≤1000) (K:Nat):∀(t i k:Nat),i+t=w→t<k→Bd (1+i*(b+1)) (sm f i)→sU K (mp f w) k (sm f i) (i:Int)=some (sm f w)
 |0,i,k,hi,hk,ha=>by
  obtain⟨k',rfl,_⟩:=bB hk
  have:i=w:=by omega
  subst this
  simp only [sU,aZ,dF (show¬(i:Int)<(i:Int) by omega),bU]
 |t+1,i,k,hi,hk,ha=>by
  obtain⟨k',rfl,_⟩:=bB hk
  have hx:=hf i (by omega)
  have hb:=aC8 hB (by omega)
  have hib:i*(b+1)≤w*(b+1):=Nat.mul_le_mul_right _ (by omega)
  have hs:1+i*(b+1)+b+1=1+(i+1)*(b+1):=by rw [Nat.add_mul];omega
  simp only [sU,aZ,dT (show(i:Int)<(w:Int) by omega),bY,dW (f:=f) (show i<w by omega),oB,aC0 ha hx (by omega) (by omega),sW (i:=i) (by omega)]
  exact aLG hf hB hw K t (i+1) k' (by omega) (by omega) (by simp only [sm];exact(ha.add hx).mono (by omega))
theorem aFS {f e:Nat→Rat} {w b b':Nat} (hf:∀c,c<w→Bd b (f c)) (he:∀c,c<w→Bd b' (e c)) (hB:w*(b+b'+1)≤1000000000) (hw:w≤1000) (K:Nat):∀(t i k:Nat),i+t=w→t<k→rG K (mp f w) (mp e w) k (mp (fun c=>f c*e c) i) (i:Int)=some (mp (fun c=>f c*e c) w)
 |0,i,k,hi,hk=>by
  obtain⟨k',rfl,_⟩:=bB hk
  have:i=w:=by omega
  subst this
  simp only [rG,aZ,Int.min_self,dF (show¬(i:Int)<(i:Int) by omega),bU]
 |t+1,i,k,hi,hk=>by
  obtain⟨k',rfl,_⟩:=bB hk
  have hb:=aC8 hB (by omega)
  simp only [rG,aZ,Int.min_self,dT (show(i:Int)<(w:Int) by omega),bY,dW (f:=f) (show i<w by omega),dW (f:=e) (show i<w by omega),oB,aAL (hf i (by omega)) (he i (by omega)) (by omega) (by omega),apM (g:=fun c=>f c*e c) (i:=i) (by omega),sW (i:=i) (by omega)]
  exact aFS hf he hB hw K t (i+1) k' (by omega) (by omega)
theorem aNi {f e:Nat→Rat} {w b b':Nat} (hf:∀c,c<w→Bd b (f c)) (he:∀c,c<w→Bd b' (e c)) (hB:w*(b+b'+1)≤1000000000) (hw:w≤1000) {K:Nat} (hK:w<K):wX K (mp f w) (mp e w)=some (sm (fun c=>f c*e c) w):=by
 have h1:=aFS hf he hB hw K w 0 K (by omega) hK
 have h2:=aLG (f:=fun c=>f c*e c) (b:=b+b') (fun c hc=>(hf c hc).mul (he c hc)) hB hw K w 0 K (by omega) hK (Bd.zero.mono (by omega))
 simp only [Int.natCast_zero,vA,sm] at h1 h2
 simp only [wX,h1,oB,xE,aBJ,h2,yH]
theorem aNW {g:Nat→Nat→Rat} {h w b:Nat} (hg:vU h w b g) (hc:Cok h w) (hb:2≤b) (hB:5^w*b≤200000000) (hh:h≤64) (hw:w≤64) {K:Nat} (hK:w+h<K):u5 K (mx g h w)=some ((aHO g h w:Int),0):=by
 simp only [u5,aHA hc hh hw (K:=K) (by omega),oB,Bool.not_true,bU,aGZ hc,aFK hg hb (Nat.le_refl w) hB (show h≤1000 by omega) (show w≤1000 by omega) hK,mM,aHO]
theorem aNs (n:Nat):Cok n n:=fun h=>h
end Go.Proofs.YtolfcbpgmfbgmaaGreat
set_option linter.unusedVariables false
namespace Go.Proofs.YtolfcbpgmfbgmaaGreat
def btc (c i:Nat):Bool:=ian ((c:Int).fdiv (2^(min (i:Int).toNat 64))) 1==1
theorem aLr {c n:Nat} {x:List Bool} (hx:x.length=n) (hn:n≤1000) (K:Nat):∀(t i k:Nat) (f:Nat→Bool),i+t=n→t<k→(∀j,j<i→f j=btc c j)→dC K (c:Int) x k (mp f n) (i:Int)=some (mp (btc c) n)
 |0,i,k,f,hi,hk,hf=>by
  obtain⟨k',rfl,_⟩:=bB hk
  simp only [dC,hx,dF (show¬(i:Int)<(n:Int) by omega),bU]
  rw [gS fun j hj=>hf j (by omega)]
 |t+1,i,k,f,hi,hk,hf=>by
  obtain⟨k',rfl,_⟩:=bB hk
  have e1:aNL (c:Int) (i:Int)=some ((c:Int).fdiv (2^(min (i:Int).toNat 64))):=if_neg (by omega)
  simp only [dC,hx,dT (show(i:Int)<(n:Int) by omega),bY,e1,oB,dW (f:=f) (show i<n by omega),w6 (f:=f) (show i<n by omega),sW (i:=i) (by omega)]
  exact aLr hx hn K t (i+1) k' _ (by omega) (by omega) (fun j hj=>by
   by_cases e:j=i
   ·rw [e,aT];rfl
   ·rw [bN e];exact hf j (by omega))
theorem aMJ {n N:Nat} (hn:n≤8) (hN:N≤1000) {yF:List Bool→List (List Rat)→Option (Nat×List (List Rat))} {out:Nat→List (List Rat)} (hy:∀c,c<N→yF (mp (btc c) n) (out c)=some (0,out (c+1))) {K:Nat} (hK:n<K):∀(t c k:Nat),c+t=N→t<k→cG K (n:Int) yF (N:Int) k (out c) (c:Int)=some (.go (out N))
 |0,c,k,hc,hk=>by
  have:c=N:=by omega
  subst this
  obtain⟨k',rfl,_⟩:=bB hk
  simp only [cG,dF (show¬(c:Int)<(c:Int) by omega),bU]
 |t+1,c,k,hc,hk=>by
  obtain⟨k',rfl,_⟩:=bB hk
  have h1:=aLr (c:=c) (aZ (fun _=>false) n) (show n≤1000 by omega) K n 0 K (fun _=>false) (by omega) hK (fun j hj=>absurd hj (by omega))
  simp only [Int.natCast_zero] at h1
  have e0:Nat.beq 0 0=true:=rfl
  simp only [cG,dT (show(c:Int)<(N:Int) by omega),bY,aFq (n:=n) (z:=false) (by omega),oB,h1,jY,hy c (by omega),e0,sW (i:=c) (by omega)]
  exact aMJ hn hN hy hK t (c+1) k' (by omega) (by omega)
def atl (b:Nat→Bool):Nat→List Nat
 |0=>[]
 |i+1=>bif b i then atl b i++[i] else atl b i
theorem aJe {b:Nat→Bool}:∀n,∀j∈atl b n,j<n
 |0,j,h=>absurd h List.not_mem_nil
 |n+1,j,h=>by
  unfold atl at h
  cases hb:b n with
  |true=>
   rw [hb,bY] at h
   rcases List.mem_append.1 h with h|h
   ·have:=aJe n j h;omega
   ·rw [List.mem_singleton.1 h];omega
  |false=>rw [hb,bU] at h;have:=aJe n j h;omega
theorem aGj {b:Nat→Bool}:∀n,(atl b n).length≤n
 |0=>Nat.le_refl _
 |n+1=>by
  unfold atl
  have:=aGj (b:=b) n
  cases b n with
  |true=>rw [bY,List.length_append];simp;exact this
  |false=>rw [bU];omega
theorem aQB {b:Nat→Bool} {n i:Nat} (h:i<(atl b n).length):pat (atl b n) i<n:=aJe n _ (aKk h)
theorem aKv {b:Nat→Bool} {n:Nat} (hn:n≤1000) (K:Nat):∀(t i k:Nat),i+t=n→t<k→dE K (mp b n) k (wZ (atl b i)) (i:Int)=some (wZ (atl b n))
 |0,i,k,hi,hk=>by
  have:i=n:=by omega
  subst this
  obtain⟨k',rfl,_⟩:=bB hk
  simp only [dE,aZ,dF (show¬(i:Int)<(i:Int) by omega),bU]
 |t+1,i,k,hi,hk=>by
  obtain⟨k',rfl,_⟩:=bB hk
  have ih:=aKv (b:=b) hn K t (i+1) k' (by omega) (by omega)
  have hl:=aGj (b:=b) i
  simp only [dE,aZ,dT (show(i:Int)<(n:Int) by omega),bY,dW (f:=b) (show i<n by omega),oB]
  cases hb:b i with
  |true=>
   have e:atl b (i+1)=atl b i++[i]:=by show(bif b i then _ else _)=_;rw [hb,bY]
   rw [e] at ih
   simp only [bY,apI (l:=atl b i) (k:=i) (by omega),oB,sW (i:=i) (by omega)]
   exact ih
  |false=>
   have e:atl b (i+1)=atl b i:=by show(bif b i then _ else _)=_;rw [hb,bU]
   rw [e] at ih
   simp only [bU,sW (i:=i) (by omega),oB]
   exact ih
def sbm (M:Nat→Nat→Rat) (at0:List Nat) (i k:Nat):Rat:=M (pat at0 i) (pat at0 k)
def sbq (q:Nat→Rat) (at0:List Nat) (i:Nat):Rat:=-(q (pat at0 i))
theorem aIs {M:Nat→Nat→Rat} {n i:Nat} {at0:List Nat} (hn:n≤1000) (hm:at0.length≤1000) (ha:∀j,j<at0.length→pat at0 j<n) (hi:i<at0.length) (K:Nat):∀(t c k:Nat),c+t=at0.length→t<k→dX K (mx M n n) (wZ at0) ((pat at0 i:Nat):Int) k (mp (sbm M at0 i) c) (c:Int)=some (mp (sbm M at0 i) at0.length)
 |0,c,k,hc,hk=>by
  have:c=at0.length:=by omega
  subst this
  obtain⟨k',rfl,_⟩:=bB hk
  simp only [dX,mM,dF (show¬(at0.length:Int)<(at0.length:Int) by omega),bU]
 |t+1,c,k,hc,hk=>by
  obtain⟨k',rfl,_⟩:=bB hk
  simp only [dX,mM,dT (show(c:Int)<(at0.length:Int) by omega),bY,rdI (ps:=at0) (show c<at0.length by omega),oB,xN (g:=M) (w:=n) (ha i hi),dW (f:=M (pat at0 i)) (ha c (by omega))]
  have e:rM (mp (sbm M at0 i) c) [M (pat at0 i) (pat at0 c)]=some (mp (sbm M at0 i) (c+1)):=apM (g:=sbm M at0 i) (by omega)
  simp only [e,oB,sW (i:=c) (by omega)]
  exact aIs hn hm ha hi K t (c+1) k' (by omega) (by omega)
theorem aJO {M:Nat→Nat→Rat} {q:Nat→Rat} {n B:Nat} {at0:List Nat} (hn:n≤1000) (hm:at0.length≤1000) (ha:∀j,j<at0.length→pat at0 j<n) (hq:∀i,i<n→Bd B (q i)) (hB:B≤1073741824) {K:Nat} (hK:at0.length<K):∀(t i k:Nat),i+t=at0.length→t<k→dD K (mx M n n) (mp q n) (wZ at0) k (mp (sbq q at0) i) (mx (sbm M at0) i at0.length) (i:Int)=some (mp (sbq q at0) at0.length,mx (sbm M at0) at0.length at0.length)
 |0,i,k,hi,hk=>by
  have:i=at0.length:=by omega
  subst this
  obtain⟨k',rfl,_⟩:=bB hk
  simp only [dD,mM,dF (show¬(at0.length:Int)<(at0.length:Int) by omega),bU]
 |t+1,i,k,hi,hk=>by
  obtain⟨k',rfl,_⟩:=bB hk
  have h1:=aIs (M:=M) hn hm ha (show i<at0.length by omega) K at0.length 0 K (by omega) hK
  simp only [Int.natCast_zero,vA] at h1
  have e1:rM (mx (sbm M at0) i at0.length) [mp (sbm M at0 i) at0.length]=some (mx (sbm M at0) (i+1) at0.length):=apM (g:=fun r=>mp (sbm M at0 r) at0.length) (by omega)
  have e2:rM (mp (sbq q at0) i) [-(q (pat at0 i))]=some (mp (sbq q at0) (i+1)):=apM (g:=sbq q at0) (by omega)
  have hp:=ha i (by omega)
  simp only [dD,mM,dT (show(i:Int)<(at0.length:Int) by omega),bY,rdI (ps:=at0) (show i<at0.length by omega),oB,h1,lF,e1,dW (f:=q) hp,aBU (hq _ hp) hB,e2,sW (i:=i) (by omega)]
  exact aJO hn hm ha hq hB hK t (i+1) k' (by omega) (by omega)
def plc (at0:List Nat) (x:List Rat):Nat→Nat→Rat
 |0=>fun _=>0
 |i+1=>kX (plc at0 x i) (pat at0 i) (at' x i)
theorem aLW {at0:List Nat} {x:List Rat} {B:Nat} (hx:Bds B x) (hB:1≤B):∀m,m≤x.length→∀j,Bd B (plc at0 x m j)
 |0,_,j=>Bd.zero.mono hB
 |m+1,hm,j=>by
  unfold plc kX
  split
  ·exact hx _ (aCq (by omega))
  ·exact aLW hx hB m (by omega) j
theorem aIj {n:Nat} {at0:List Nat} {x:List Rat} {e:Int} (hm:at0.length≤1000) (ha:∀j,j<at0.length→pat at0 j<n) (hx:x.length=at0.length) (K:Nat):∀(t i k:Nat),i+t=at0.length→t<k→dZ K (wZ at0) (x,e) k (mp (plc at0 x i) n) (i:Int)=some (mp (plc at0 x at0.length) n)
 |0,i,k,hi,hk=>by
  have:i=at0.length:=by omega
  subst this
  obtain⟨k',rfl,_⟩:=bB hk
  simp only [dZ,mM,dF (show¬(at0.length:Int)<(at0.length:Int) by omega),bU]
 |t+1,i,k,hi,hk=>by
  obtain⟨k',rfl,_⟩:=bB hk
  have hp:=ha i (by omega)
  simp only [dZ,mM,dT (show(i:Int)<(at0.length:Int) by omega),bY,rdI (ps:=at0) (show i<at0.length by omega),oB,aKQ (l:=x) (i:=i) (by omega),dW (f:=plc at0 x i) hp,w6 (f:=plc at0 x i) hp,sW (i:=i) (by omega)]
  exact aIj hm ha hx K t (i+1) k' (by omega) (by omega)
def cnd (M:Nat→Nat→Rat) (q:Nat→Rat) (at0:List Nat):Option (Nat→Rat):=
 if at0.length=0 then some (fun _=>0)
 else if aHO (sbm M at0) at0.length at0.length=at0.length then(match aAv (sbm M at0) (sbq q at0) at0.length at0.length with
  |none=>none
  |some x=>some (plc at0 x at0.length))
 else none
theorem aM7 {M:Nat→Nat→Rat} {q:Nat→Rat} {n B:Nat} {b:Nat→Bool} (hM:vU n n B M) (hq:∀i,i<n→Bd B (q i)) (hn:n≤6) (h2:2≤B) (hB:B≤5000) {K:Nat} (hK:100≤K):
  lI K (mx M n n) (mp q n) (mp b n)=some (match cnd M q (atl b n) with|none=>([],false)|some z=>(mp z n,true))∧∀z,cnd M q (atl b n)=some z→∀j,Bd (5^6*B) (z j):=by
 have hl:=aGj (b:=b) n
 have ha:∀j,j<(atl b n).length→pat (atl b n) j<n:=fun j hj=>aQB hj
 have h23:=aKv (b:=b) (show n≤1000 by omega) K n 0 K (by omega) (by omega)
 have z0':wZ (atl b 0)=[]:=rfl
 rw [z0',Int.natCast_zero] at h23
 generalize hat:atl b n=at0 at *
 have h67:=aJO (M:=M) (q:=q) (show n≤1000 by omega) (show at0.length≤1000 by omega) ha hq (by omega) (show at0.length<K by omega) at0.length 0 K (by omega) (by omega)
 have z1:mx (sbm M at0) 0 at0.length=[]:=rfl
 rw [z1,vA,Int.natCast_zero] at h67
 simp only [lI,h23,oB,lW,h67,l4,aFq (n:=n) (z:=(0:Rat)) (by omega),mM,aZ]
 unfold cnd
 by_cases h0:at0.length=0
 ·rw [if_pos h0]
  simp only [qT (show(at0.length:Int)=0 by omega),bY]
  exact⟨trivial,fun z hz j=>by cases hz;exact Bd.zero.mono (by have:0<5^6*B:=Nat.mul_pos (by decide) (by omega);omega)⟩
 rw [if_neg h0]
 have hA:vU at0.length at0.length B (sbm M at0):=fun i c hi hc=>hM _ _ (ha i hi) (ha c hc)
 have hb':∀i,i<at0.length→Bd B (sbq q at0 i):=fun i hi=>(hq _ (ha i hi)).neg
 have hp6:5^at0.length*B≤5^6*B:=Nat.mul_le_mul_right B (Nat.pow_le_pow_right (by decide) (by omega))
 have hc:Cok at0.length at0.length:=aNs _
 have hR:=aNW hA hc h2 (by omega) (show at0.length≤64 by omega) (show at0.length≤64 by omega) (show at0.length+at0.length<K by omega)
 have hS:=aK3 hA hb' hc h2 (by omega) (show at0.length≤64 by omega) (show at0.length≤63 by omega) (show at0.length+1+at0.length<K by omega)
 simp only [qF (show¬(at0.length:Int)=0 by omega),bU,hR,oB,nF (rfl:(0:Int)=0)]
 by_cases hr:aHO (sbm M at0) at0.length at0.length=at0.length
 ·rw [if_pos hr]
  simp only [hr,nF (rfl:(at0.length:Int)=(at0.length:Int)),bU,hS,oB]
  cases hx:aAv (sbm M at0) (sbq q at0) at0.length at0.length with
  |none=>simp only [nT (show(6:Int)≠0 by decide),bY];exact⟨trivial,fun z hz=>by cases hz⟩
  |some x=>
   obtain⟨x1,x2⟩:=aLi hA hb' h2 hx
   have h102:=aIj (e:=0) (show at0.length≤1000 by omega) ha x1 K at0.length 0 K (by omega) (by omega)
   have z3:mp (plc at0 x 0) n=mp (fun _=>(0:Rat)) n:=rfl
   rw [z3,Int.natCast_zero] at h102
   simp only [nF (rfl:(0:Int)=0),bU,h102,oB,lD]
   refine⟨trivial,fun z hz j=>?_⟩
   cases hz
   exact(aLW x2 (by have:0<5^at0.length*B:=Nat.mul_pos (Nat.pow_pos (by decide)) (by omega);omega) _ (by omega) j).mono hp6
 ·rw [if_neg hr]
  simp only [nT (show((aHO (sbm M at0) at0.length at0.length:Nat):Int)≠(at0.length:Int) by omega),bY]
  exact⟨trivial,fun z hz=>by cases hz⟩
def wvl (M:Nat→Nat→Rat) (q z:Nat→Rat) (n i:Nat):Rat:=sm (fun c=>M i c*z c) n+q i
def aFs (z w:Nat→Rat):Nat→Nat→Bool
 |0,_=>true
 |t+1,i=>bif decide (0<(z i).num.sign) then(bif((w i).num.sign != 0) then false else aFs z w t (i+1)) else aFs z w t (i+1)
def ckb (M:Nat→Nat→Rat) (q z:Nat→Rat) (n:Nat):Bool:=bif ng z n 0 then false else(bif aFs z (wvl M q z n) n 0 then !(ng (wvl M q z n) n 0) else false)
theorem aKe {M:Nat→Nat→Rat} {q z:Nat→Rat} {n B B':Nat} (hM:vU n n B M) (hq:∀i,i<n→Bd B (q i)) (hz:∀i,i<n→Bd B' (z i)) (hn:n≤8) (hB:8*(B+B'+1)≤1000000000) {K:Nat} (hK:100≤K):∀(t i k:Nat) (f:Nat→Rat),i+t=n→t<k→(∀j,j<i→f j=wvl M q z n j)→gO K (mx M n n) (mp q n) (mp z n) k (mp f n) (i:Int)=some (mp (wvl M q z n) n)
 |0,i,k,f,hi,hk,hf=>by
  obtain⟨k',rfl,_⟩:=bB hk
  simp only [gO,nG,dF (show¬(i:Int)<(n:Int) by omega),bU]
  rw [gS fun j hj=>hf j (by omega)]
 |t+1,i,k,f,hi,hk,hf=>by
  obtain⟨k',rfl,_⟩:=bB hk
  have hnB:n*(B+B'+1)≤1000000000:=Nat.le_trans (Nat.mul_le_mul_right _ hn) hB
  have d:=aNi (f:=M i) (e:=z) (w:=n) (fun c hc=>hM i c (by omega) hc) hz hnB (by omega) (show n<K by omega)
  have db:=aMU (f:=M i) (e:=z) (w:=n) (fun c hc=>hM i c (by omega) hc) hz n (Nat.le_refl n)
  simp only [gO,nG,dT (show(i:Int)<(n:Int) by omega),bY,xN (g:=M) (w:=n) (show i<n by omega),oB,d,dW (f:=q) (show i<n by omega),aC0 db (hq i (by omega)) (by omega) (by omega),dW (f:=f) (show i<n by omega),w6 (f:=f) (show i<n by omega),sW (i:=i) (by omega)]
  exact aKe hM hq hz hn hB hK t (i+1) k' _ (by omega) (by omega) (fun j hj=>by
   by_cases e:j=i
   ·rw [e,aT];rfl
   ·rw [bN e];exact hf j (by omega))
theorem aJ4 {z w:Nat→Rat} {n B B':Nat} (hz:∀i,i<n→Bd B (z i)) (hw:∀i,i<n→Bd B' (w i)) (hB:B≤1073741824) (hB':B'≤1073741824) (hn:n≤1000) (K:Nat):∀(t i k:Nat),i+t=n→t<k→fH K (mp z n) (mp w n) k (i:Int)=some (bif aFs z w t i then .go () else .ret false)
 |0,i,k,hi,hk=>by
  obtain⟨k',rfl,_⟩:=bB hk
  simp only [fH,aZ,dF (show¬(i:Int)<(n:Int) by omega),bU,aFs,bY]
 |t+1,i,k,hi,hk=>by
  obtain⟨k',rfl,_⟩:=bB hk
  have ih:=aJ4 hz hw hB hB' hn K t (i+1) k' (by omega) (by omega)
  simp only [fH,aZ,dT (show(i:Int)<(n:Int) by omega),bY,dW (f:=z) (show i<n by omega),dW (f:=w) (show i<n by omega),oB,uJ (hz i (by omega)) hB,uJ (hw i (by omega)) hB',sW (i:=i) (by omega),aFs]
  cases decide (0<(z i).num.sign) with
  |true=>
   simp only [bY]
   cases((w i).num.sign != 0) with
   |true=>simp only [bY,bU]
   |false=>simp only [bU];exact ih
  |false=>simp only [bU];exact ih
theorem aIN {M:Nat→Nat→Rat} {q z:Nat→Rat} {n B B':Nat} (hM:vU n n B M) (hq:∀i,i<n→Bd B (q i)) (hz:∀i,i<n→Bd B' (z i)) (hn:n≤8) (hB:8*(B+B'+1)≤100000000) {K:Nat} (hK:100≤K):mT K (mx M n n) (mp q n) (mp z n)=some (ckb M q z n):=by
 have v:=aBQ hM hq (by omega) (by omega) hK
 have g:=aEE (z5 hz) (by omega) (show(mp z n).length≤1000 by rw [aZ];omega) (show(mp z n).length<K by rw [aZ];omega)
 have ngz:=(aI5 hz (by omega) (show n≤1000 by omega) (show n<K by omega)).1
 have hw:∀i,i<n→Bd (200000000+B) (wvl M q z n i):=fun i hi=>by
  have hnB:n*(B+B'+1)≤100000000:=Nat.le_trans (Nat.mul_le_mul_right _ hn) hB
  have db:=aMU (f:=M i) (e:=z) (w:=n) (fun c hc=>hM i c (by omega) hc) hz n (Nat.le_refl n)
  exact(db.add (hq i hi)).mono (by omega)
 have ngw:=(aI5 hw (by omega) (show n≤1000 by omega) (show n<K by omega)).1
 have l26:=aKe hM hq hz hn (by omega) hK n 0 K (fun _=>0) (by omega) (by omega) (fun j hj=>absurd hj (by omega))
 have l15:=aJ4 hz hw (by omega) (by omega) (show n≤1000 by omega) K n 0 K (by omega) (by omega)
 simp only [Int.natCast_zero] at l26 l15
 simp only [mT,v,oB,Bool.not_true,bU,aZ,nF (rfl:(n:Int)=(n:Int)),g,ngz,ckb]
 cases ng z n 0 with
 |true=>simp only [bY]
 |false=>
  simp only [bU,rS,aZ,aFq (n:=n) (z:=(0:Rat)) (by omega),oB,l26,nN,l15]
  cases aFs z (wvl M q z n) n 0 with
  |true=>simp only [bY,oS,ngw,oB]
  |false=>simp only [bU]
theorem aKm {x z:List Rat} {B:Nat} (hx:Bds B x) (hz:Bds B z) (hB:B≤1073741824) (hl:x.length=z.length) (hn:x.length≤1000) (K:Nat):∀(t i k:Nat),i+t=x.length→t<k→jD K x z k (i:Int)=some (if x.drop i=z.drop i then .go () else .ret false)
 |0,i,k,hi,hk=>by
  obtain⟨k',rfl,_⟩:=bB hk
  simp only [jD,dF (show¬(i:Int)<(x.length:Int) by omega),bU]
  rw [List.drop_eq_nil_of_le (by omega),List.drop_eq_nil_of_le (by omega),if_pos rfl]
 |t+1,i,k,hi,hk=>by
  obtain⟨k',rfl,_⟩:=bB hk
  have ih:=aKm hx hz hB hl hn K t (i+1) k' (by omega) (by omega)
  have b1:=hx _ (aCq (l:=x) (i:=i) (by omega))
  have b2:=hz _ (aCq (l:=z) (i:=i) (by omega))
  have d1:x.drop i=at' x i::x.drop (i+1):=by unfold at';rw [List.drop_eq_getElem_cons (by omega),List.getD_eq_getElem?_getD,List.getElem?_eq_getElem (by omega)];rfl
  have d2:z.drop i=at' z i::z.drop (i+1):=by unfold at';rw [List.drop_eq_getElem_cons (by omega),List.getD_eq_getElem?_getD,List.getElem?_eq_getElem (by omega)];rfl
  simp only [jD,dT (show(i:Int)<(x.length:Int) by omega),bY,aKQ (l:=x) (i:=i) (by omega),aKQ (l:=z) (i:=i) (by omega),oB,aHs b1 b2 hB hB,sW (i:=i) (by omega)]
  rw [d1,d2]
  by_cases e:at' x i=at' z i
  ·simp only [e,decide_true,Bool.not_true,bU,ih,List.cons.injEq,true_and]
  ·simp only [e,decide_false,Bool.not_false,bY,List.cons.injEq,false_and,if_false]
theorem aNN {x z:List Rat} {B:Nat} (hx:Bds B x) (hz:Bds B z) (hB:B≤1073741824) (hl:x.length=z.length) (hn:x.length≤1000) {K:Nat} (hK:x.length<K):rA K x z=some (decide (x=z)):=by
 have h:=aKm hx hz hB hl hn K x.length 0 K (by omega) hK
 simp only [Int.natCast_zero,List.drop_zero] at h
 simp only [rA,h,oB]
 by_cases e:x=z
 ·rw [if_pos e]
  simp only [qN,e,decide_true,qT (rfl:(z.length:Int)=(z.length:Int))]
 ·rw [if_neg e]
  simp only [e,decide_false]
def aLc (B n:Nat) (out:List (List Rat)):Prop:=∀x∈out,Bds B x∧x.length=n
theorem aJp {out:List (List Rat)} {z:List Rat} {b:Bool} {n B:Nat} (ho:aLc B n out) (hz:Bds B z) (hzl:z.length=n) (hB:B≤1073741824) (hn:n≤1000) (hl:out.length≤100000) {K:Nat} (hK:n<K):∀(t i k:Nat),i+t=out.length→t<k→iZ K out (z,b) k (i:Int)=some (if z∈out.drop i then .ret (0,out) else .go ())
 |0,i,k,hi,hk=>by
  obtain⟨k',rfl,_⟩:=bB hk
  simp only [iZ,dF (show¬(i:Int)<(out.length:Int) by omega),bU]
  rw [List.drop_eq_nil_of_le (by omega),if_neg List.not_mem_nil]
 |t+1,i,k,hi,hk=>by
  obtain⟨k',rfl,_⟩:=bB hk
  have ih:=aJp ho hz hzl (b:=b) hB hn hl hK t (i+1) k' (by omega) (by omega)
  have hi':i<out.length:=by omega
  have d1:out.drop i=out[i]::out.drop (i+1):=List.drop_eq_getElem_cons hi'
  have r1:bK out (i:Int)=some out[i]:=rdG (List.getElem?_eq_getElem hi')
  obtain⟨o1,o2⟩:=ho _ (List.getElem_mem hi')
  simp only [iZ,dT (show(i:Int)<(out.length:Int) by omega),bY,r1,oB,aNN o1 hz hB (by omega) (by omega) (show out[i].length<K by omega),sW (i:=i) (by omega)]
  rw [d1]
  by_cases e:out[i]=z
  ·rw [decide_eq_true e,bY,if_pos (by rw [e];exact List.mem_cons_self)]
  ·rw [decide_eq_false e,bU,ih]
   have:(z∈out[i]::out.drop (i+1))↔z∈out.drop (i+1):=by
    rw [List.mem_cons]
    exact⟨fun h=>h.resolve_left fun h2=>e h2.symm,Or.inr⟩
   by_cases h2:z∈out.drop (i+1)
   ·rw [if_pos h2,if_pos (this.2 h2)]
   ·rw [if_neg h2,if_neg (fun h=>h2 (this.1 h))]
def aHe (M:Nat→Nat→Rat) (q:Nat→Rat) (n c:Nat) (out:List (List Rat)):List (List Rat):=
 match cnd M q (atl (btc c) n) with
 |none=>out
 |some z=>if ckb M q z n=true then(if mp z n∈out then out else out++[mp z n]) else out
def aAN (M:Nat→Nat→Rat) (q:Nat→Rat) (n:Nat):Nat→List (List Rat)
 |0=>[]
 |c+1=>aHe M q n c (aAN M q n c)
theorem aGN {M:Nat→Nat→Rat} {q:Nat→Rat} {n B:Nat} (hM:vU n n B M) (hq:∀i,i<n→Bd B (q i)) (hn:n≤6) (h2:2≤B) (hB:B≤5000):∀c,aLc (5^6*B) n (aAN M q n c)∧(aAN M q n c).length≤c
 |0=>⟨fun x hx=>absurd hx List.not_mem_nil,Nat.le_refl _⟩
 |c+1=>by
  obtain⟨i1,i2⟩:=aGN hM hq hn h2 hB c
  show aLc _ _ (aHe M q n c (aAN M q n c))∧(aHe M q n c (aAN M q n c)).length≤c+1
  unfold aHe
  cases hc:cnd M q (atl (btc c) n) with
  |none=>exact⟨i1,by show(aAN M q n c).length≤c+1;omega⟩
  |some z=>
   have hz:=(aM7 (b:=btc c) hM hq hn h2 hB (K:=100) (Nat.le_refl _)).2 z hc
   show aLc _ _ (if _ then _ else _)∧(if _ then _ else _:List (List Rat)).length≤c+1
   split
   ·split
    ·exact⟨i1,by omega⟩
    ·refine⟨fun x hx=>?_,by rw [List.length_append];simp;exact i2⟩
     rcases List.mem_append.1 hx with h|h
     ·exact i1 x h
     ·rw [List.mem_singleton.1 h];exact⟨z5 fun j _=>hz j,aZ _ _⟩
   ·exact⟨i1,by omega⟩
theorem aQz:∀n,n≤6→aNR 1 ((n:Nat):Int)=some ((2^n:Nat):Int):=by decide
theorem aPP {M:Nat→Nat→Rat} {q:Nat→Rat} {n B:Nat} (hM:vU n n B M) (hq:∀i,i<n→Bd B (q i)) (hn:n≤6) (h2:2≤B) (hB:B≤50) {K:Nat} (hK:1000≤K) {c:Nat} (hc:c<100):nI K (mx M n n) (mp q n) (mp (btc c) n) (aAN M q n c)=some (0,aAN M q n (c+1)):=by
 obtain⟨i1,i2⟩:=aGN hM hq hn h2 (show B≤5000 by omega) c
 obtain⟨c1,c2⟩:=aM7 (b:=btc c) hM hq hn h2 (show B≤5000 by omega) (show 100≤K by omega)
 show _=some (0,aHe M q n c (aAN M q n c))
 unfold aHe
 simp only [nI,c1,oB]
 cases hcn:cnd M q (atl (btc c) n) with
 |none=>simp only [Bool.not_false,bY]
 |some z=>
  have hz:=c2 z hcn
  have e6:5^6=15625:=rfl
  have ck:=aIN (K:=K) hM hq (fun i _=>hz i) (show n≤8 by omega) (by omega) (by omega)
  simp only [Bool.not_true,bU,ck,oB]
  cases ckb M q z n with
  |false=>simp only [Bool.not_false,bY,Bool.false_eq_true,if_false]
  |true=>
   have hzb:Bds (5^6*B) (mp z n):=z5 fun j _=>hz j
   have l35:=aJp (b:=true) i1 hzb (aZ z n) (by omega) (show n≤1000 by omega) (by omega) (show n<K by omega) (aAN M q n c).length 0 K (by omega) (by omega)
   simp only [Int.natCast_zero,List.drop_zero] at l35
   simp only [Bool.not_true,bU,l35,oB,if_true]
   by_cases hm:mp z n∈aAN M q n c
   ·simp only [if_pos hm]
   ·simp only [if_neg hm,qK,apS (xs:=aAN M q n c) (x:=mp z n) (by omega),oB]
theorem aIi {M:Nat→Nat→Rat} {q:Nat→Rat} {n B:Nat} (hM:vU n n B M) (hq:∀i,i<n→Bd B (q i)) (hn:n≤6) (h2:2≤B) (hB:B≤50) {K:Nat} (hK:1000≤K):o5 K (mx M n n) (mp q n)=some (aAN M q n (2^n),0):=by
 have v:=aBQ hM hq (by omega) (show n≤32 by omega) (show 100≤K by omega)
 have h64:2^n≤2^6:=Nat.pow_le_pow_right (by decide) hn
 have l35:=aMJ (yF:=nI K (mx M n n) (mp q n)) (out:=aAN M q n) (show n≤8 by omega) (show 2^n≤1000 by omega) (fun c hc=>aPP hM hq hn h2 hB hK (by omega)) (show n<K by omega) (2^n) 0 K (by omega) (by omega)
 have z:aAN M q n 0=[]:=rfl
 rw [z,Int.natCast_zero] at l35
 have e0:Nat.beq 0 0=true:=rfl
 simp only [o5,v,oB,Bool.not_true,bU,aZ,dF (show¬(8:Int)<(n:Int) by omega),nW,mC,aQz n hn,l35,jZ,e0,bY]
end Go.Proofs.YtolfcbpgmfbgmaaGreat
set_option linter.unusedVariables false
namespace Go.Proofs.YtolfcbpgmfbgmaaGreat
theorem wI {c x:Rat} (hc:c≠0):c*x=0↔x=0:=by
 constructor
 ·intro h;grind
 ·intro h;rw [h,Rat.mul_zero]
theorem aKB {g g':Nat→Nat→Rat} {c:Rat} {k n:Nat} (hc:c≠0) (hg:∀i,n≤i→g' i k=c*g i k):∀t i,n≤i→piv g' k t i=piv g k t i
 |0,_,_=>rfl
 |t+1,i,h=>by
  unfold piv
  rw [hg i h,aKB hc hg t (i+1) (by omega)]
  by_cases e:g i k=0
  ·rw [if_pos e,if_pos ((wI hc).2 e)]
  ·rw [if_neg e,if_neg (fun h2=>e ((wI hc).1 h2))]
theorem aQj {c x y:Rat} (hc:c≠0):(c*x)/(c*y)=x/y:=by
 by_cases hy:y=0
 ·subst hy;rw [Rat.mul_zero,Rat.div_def,Rat.div_def,Rat.inv_zero,Rat.mul_zero,Rat.mul_zero]
 ·grind
theorem aGA {g:Nat→Nat→Rat} {h:Nat} {c:Rat} (hc:c≠0):∀k,(vV (fun i j=>c*g i j) h k).ps=(vV g h k).ps∧∀i j,(vV (fun i j=>c*g i j) h k).g i j=if i<(vV g h k).ps.length then(vV g h k).g i j else c*(vV g h k).g i j
 |0=>⟨rfl,fun i j=>by show c*g i j=if i<0 then _ else _;rw [if_neg (by omega)];rfl⟩
 |k+1=>by
  obtain⟨i1,i2⟩:=aGA (g:=g) (h:=h) hc k
  show(wM h k (vV (fun i j=>c*g i j) h k)).ps=(wM h k (vV g h k)).ps∧∀i j,(wM h k (vV (fun i j=>c*g i j) h k)).g i j=if i<(wM h k (vV g h k)).ps.length then(wM h k (vV g h k)).g i j else c*(wM h k (vV g h k)).g i j
  generalize vV (fun i j=>c*g i j) h k=s' at *
  generalize vV g h k=s at *
  have hp:piv s'.g k (h-s.ps.length) s.ps.length=piv s.g k (h-s.ps.length) s.ps.length:=aKB (n:=s.ps.length) hc (fun i hi=>by rw [i2,if_neg (by omega)]) _ _ (Nat.le_refl _)
  unfold wM
  rw [i1,hp]
  by_cases e:piv s.g k (h-s.ps.length) s.ps.length=h
  ·rw [if_pos e,if_pos e];exact⟨i1,i2⟩
  ·rw [if_neg e,if_neg e]
   have hle:=(aDO (g:=s.g) (k:=k) (h-s.ps.length) s.ps.length).1
   generalize piv s.g k (h-s.ps.length) s.ps.length=a at *
   refine⟨rfl,fun i j=>?_⟩
   show stp s'.g s.ps.length a k i j=if i<(s.ps++[k]).length then stp s.g s.ps.length a k i j else c*stp s.g s.ps.length a k i j
   have hlen:(s.ps++[k]).length=s.ps.length+1:=by simp
   have hpr:∀j,pr s'.g a k j=pr s.g a k j:=fun j=>by
    unfold pr
    rw [i2,i2,if_neg (by omega),if_neg (by omega),aQj hc]
   rw [hlen]
   unfold stp
   rw [hpr]
   by_cases h1:i=s.ps.length
   ·rw [if_pos h1,if_pos h1,if_pos (by omega)]
   ·rw [if_neg h1,if_neg h1]
    unfold w5
    rw [if_neg h1]
    by_cases h2:i<s.ps.length
    ·rw [if_neg (show¬i=a by omega),i2,i2,if_pos h2,if_pos h2,if_pos (by omega)]
    ·rw [if_neg (show¬i<s.ps.length+1 by omega)]
     have hx:¬(if i=a then s.ps.length else i)<s.ps.length:=by split<;>omega
     rw [i2,i2,if_neg hx,if_neg hx]
     grind
theorem aFG {g g':Nat→Nat→Rat} {c:Rat} {w n:Nat} (hc:c≠0) (hg:∀i,n≤i→g' i w=c*g i w):∀t i,n≤i→aAX g' w t i=aAX g w t i
 |0,_,_=>rfl
 |t+1,i,h=>by
  unfold aAX
  rw [hg i h,aFG hc hg t (i+1) (by omega)]
  by_cases e:g i w=0
  ·rw [if_pos e,if_pos ((wI hc).2 e)]
  ·rw [if_neg e,if_neg (fun h2=>e ((wI hc).1 h2))]
theorem aHM {s s':RS} {w:Nat} (hp:s'.ps=s.ps) (hg:∀i j,i<s.ps.length→s'.g i j=s.g i j):∀m,m≤s.ps.length→aCL s' w m=aCL s w m
 |0,_=>rfl
 |m+1,h=>by
  unfold aCL
  rw [aHM hp hg m (by omega),hp,hg m w (by omega)]
theorem aJi {g:Nat→Nat→Rat} {f:Nat→Rat} {h w:Nat} {c:Rat} (hc:c≠0):aAv (fun i j=>c*g i j) (fun i=>c*f i) h w=aAv g f h w:=by
 have e:wid (fun i j=>c*g i j) (fun i=>c*f i) w=fun i j=>c*wid g f w i j:=by
  funext i j;unfold wid;split<;>rfl
 unfold aAv
 rw [e]
 obtain⟨i1,i2⟩:=aGA (g:=wid g f w) (h:=h) hc w
 generalize vV (fun i j=>c*wid g f w i j) h w=s' at *
 generalize vV (wid g f w) h w=s at *
 show(if aAX s'.g w (h-s'.ps.length) s'.ps.length=true then none else some (mp (aCL s' w s'.ps.length) w))=if aAX s.g w (h-s.ps.length) s.ps.length=true then none else some (mp (aCL s w s.ps.length) w)
 rw [i1,aFG (n:=s.ps.length) (g:=s.g) hc (fun i hi=>by rw [i2,if_neg (by omega)]) _ _ (Nat.le_refl _),aHM i1 (fun i j hi=>by rw [i2,if_pos hi]) _ (Nat.le_refl _)]
theorem aNx {g:Nat→Nat→Rat} {h w:Nat} {c:Rat} (hc:c≠0):aHO (fun i j=>c*g i j) h w=aHO g h w:=by
 unfold aHO;rw [(aGA (g:=g) (h:=h) hc w).1]
theorem aOp {M:Nat→Nat→Rat} {q:Nat→Rat} {at0:List Nat} {c:Rat} (hc:c≠0):cnd (fun i k=>c*M i k) (fun i=>c*q i) at0=cnd M q at0:=by
 have e1:sbm (fun i k=>c*M i k) at0=fun i k=>c*sbm M at0 i k:=rfl
 have e2:sbq (fun i=>c*q i) at0=fun i=>c*sbq q at0 i:=by funext i;unfold sbq;grind
 unfold cnd
 rw [e1,e2,aNx hc,aJi hc]
theorem aNM {M:Nat→Nat→Rat} {q z:Nat→Rat} {n:Nat} {c:Rat}:wvl (fun i k=>c*M i k) (fun i=>c*q i) z n=fun i=>c*wvl M q z n i:=by
 funext i
 unfold wvl
 have e:sm (fun k=>c*M i k*z k) n=sm (fun k=>M i k*z k) n*c:=by
  rw [←aE7];exact fO fun k _=>by grind
 rw [e];grind
theorem aHw {z w:Nat→Rat} {c:Rat} (hc:c≠0):∀t i,aFs z (fun i=>c*w i) t i=aFs z w t i
 |0,_=>rfl
 |t+1,i=>by
  unfold aFs
  rw [aHw hc t (i+1)]
  have e:((c*w i).num.sign != 0)=((w i).num.sign != 0):=by
   by_cases h:w i=0
   ·rw [h,Rat.mul_zero]
   ·have h1:¬(w i).num.sign=0:=fun h2=>h (aD3.1 h2)
    have h2:¬(c*w i).num.sign=0:=fun h3=>h ((wI hc).1 (aD3.1 h3))
    rw [nT h1,nT h2]
  rw [e]
theorem aOd {M:Nat→Nat→Rat} {q z:Nat→Rat} {n:Nat} {c:Rat} (hc:0<c):ckb (fun i k=>c*M i k) (fun i=>c*q i) z n=ckb M q z n:=by
 unfold ckb
 rw [aNM,aHw (vE hc),aG7 hc]
theorem aIc {M:Nat→Nat→Rat} {q:Nat→Rat} {n:Nat} {c:Rat} (hc:0<c):∀k,aAN (fun i k=>c*M i k) (fun i=>c*q i) n k=aAN M q n k
 |0=>rfl
 |k+1=>by
  show aHe _ _ n k (aAN _ _ n k)=aHe M q n k (aAN M q n k)
  rw [aIc hc k]
  unfold aHe
  rw [aOp (vE hc)]
  simp only [aOd hc]
theorem aFQ {f:Nat→Rat} {n B:Nat} {c:Rat} (hf:∀i,i<n→Bd B (f i)) (hc:Bd 8 c) (hB:B≤1000000) (hn:n≤1000) (K:Nat):∀(t i k:Nat),i+t=n→t<k→gJ K (mp f n) c k (mp (fun i=>c*f i) i) (i:Int)=some (mp (fun i=>c*f i) n)
 |0,i,k,hi,hk=>by
  have:i=n:=by omega
  subst this
  obtain⟨k',rfl,_⟩:=bB hk
  simp only [gJ,aZ,dF (show¬(i:Int)<(i:Int) by omega),bU]
 |t+1,i,k,hi,hk=>by
  obtain⟨k',rfl,_⟩:=bB hk
  have e:rM (mp (fun i=>c*f i) i) [f i*c]=some (mp (fun i=>c*f i) (i+1)):=by
   rw [Rat.mul_comm (f i) c];exact apM (g:=fun i=>c*f i) (by omega)
  simp only [gJ,aZ,dT (show(i:Int)<(n:Int) by omega),bY,dW (f:=f) (show i<n by omega),oB,aAL (hf i (by omega)) hc (by omega) (by omega),e,sW (i:=i) (by omega)]
  exact aFQ hf hc hB hn K t (i+1) k' (by omega) (by omega)
theorem aEJ {f:Nat→Rat} {n B:Nat} {c:Rat} (hf:∀i,i<n→Bd B (f i)) (hc:Bd 8 c) (hB:B≤1000000) (hn:n≤1000) {K:Nat} (hK:n<K):fD K (mp f n) c=some (mp (fun i=>c*f i) n):=by
 have h:=aFQ hf hc hB hn K n 0 K (by omega) hK
 simp only [Int.natCast_zero,vA] at h
 simp only [fD,h,oB,nQ]
theorem aK4 {l:List Rat} {B:Nat} {c:Rat} (hl:Bds B l) (hc:Bd 8 c) (hB:B≤1000000) (hn:l.length≤1000) {K:Nat} (hK:l.length<K):fD K l c=some (l.map (c*·)):=by
 have h:=aEJ (f:=at' l) (n:=l.length) (fun i hi=>hl _ (aCq hi)) hc hB hn hK
 rw [←aLE l] at h
 rw [h,←aCA,←aLE l]
theorem aJ6 {M:Nat→Nat→Rat} {q:List Rat} {n B:Nat} {c:Rat} (hM:vU n n B M) (hc:Bd 8 c) (hB:B≤1000000) (hn:n≤1000) {K:Nat} (hK:n<K):∀(t i k:Nat),i+t=n→t<k→bZ K (mx M n n,q) c k (mx (fun i k=>c*M i k) i n) (i:Int)=some (mx (fun i k=>c*M i k) n n)
 |0,i,k,hi,hk=>by
  have:i=n:=by omega
  subst this
  obtain⟨k',rfl,_⟩:=bB hk
  simp only [bZ,nG,dF (show¬(i:Int)<(i:Int) by omega),bU]
 |t+1,i,k,hi,hk=>by
  obtain⟨k',rfl,_⟩:=bB hk
  have e:rM (mx (fun i k=>c*M i k) i n) [mp (fun k=>c*M i k) n]=some (mx (fun i k=>c*M i k) (i+1) n):=apM (g:=fun i=>mp (fun k=>c*M i k) n) (by omega)
  simp only [bZ,nG,dT (show(i:Int)<(n:Int) by omega),bY,xN (g:=M) (w:=n) (show i<n by omega),oB,aEJ (hM i · (by omega)) hc hB hn hK,e,sW (i:=i) (by omega)]
  exact aJ6 hM hc hB hn hK t (i+1) k' (by omega) (by omega)
theorem aEX {l:List (List Rat)} {B n:Nat} (hl:aLc B n l) (hB:B≤1000000) (hn:n≤1000) (hm:l.length≤100000) {K:Nat} (hK:n<K):∀(t i k:Nat),i+t=l.length→t<k→fT K l l k (i:Int)=some (.go ())
 |0,i,k,hi,hk=>by
  obtain⟨k',rfl,_⟩:=bB hk
  simp only [fT,dF (show¬(i:Int)<(l.length:Int) by omega),bU]
 |t+1,i,k,hi,hk=>by
  obtain⟨k',rfl,_⟩:=bB hk
  have hi':i<l.length:=by omega
  have r1:bK l (i:Int)=some l[i]:=rdG (List.getElem?_eq_getElem hi')
  obtain⟨o1,o2⟩:=hl _ (List.getElem_mem hi')
  simp only [fT,dT (show(i:Int)<(l.length:Int) by omega),bY,r1,oB,aIK o1 hB (by omega) (show l[i].length<K by omega),Bool.not_true,bU,sW (i:=i) (by omega)]
  exact aEX hl hB hn hm hK t (i+1) k' (by omega) (by omega)
theorem aIE {l:List (List Rat)} {B n:Nat} (hl:aLc B n l) (hB:B≤1000000) (hn:n≤1000) (hm:l.length≤100000) {K:Nat} (hK:n<K) (hK2:l.length<K):mJ K l l=some true:=by
 have h:=aEX hl hB hn hm hK l.length 0 K (by omega) hK2
 simp only [Int.natCast_zero] at h
 simp only [mJ,nF (rfl:(l.length:Int)=(l.length:Int)),bU,h,oB,m5]
theorem aGm {n:Nat} {M:Nat→Nat→Rat} {q:Nat→Rat} {D:Rat} (hD:D≠0) (h1:isZ 40000 D) (hM:∀i c,i<n→c<n→isZ 40000 (M i c*D)) (hq:∀i,i<n→isZ 40000 (q i*D)) (hn:n≤6):Sm n 200 (yC M q n):=fun T b hT=>by
 have ng':∀x:Rat,isZ 40000 (x*D)→isZ 40000 (-x*D):=fun x hx=>by
  obtain⟨z,z1,z2⟩:=hx
  exact⟨-z,by rw [Rat.neg_mul,z1,Rat.intCast_neg],by omega⟩
 have one:isZ 40000 ((1:Rat)*D):=by rw [Rat.one_mul];exact h1
 refine(hT.bd (D:=D) (M:=40000) (k:=200) hD (fun i c hi hc=>?_) (by omega) ?_)
 ·unfold yC
  split
  ·split
   ·exact one
   ·exact⟨0,by rw [Rat.zero_mul];rfl,by decide⟩
  ·split
   ·exact ng' _ (hM i (c-n) hi (by omega))
   ·split
    ·exact ng' 1 one
    ·exact hq i hi
 ·exact Nat.lt_of_le_of_lt (Nat.pow_le_pow_right (by decide) hn) (by decide)
theorem aA4 {a0:List Int} {a1 a2:Int} (h0:aA1 a0) (h1:I64 a1) (h2:I64 a2):∃K,jN K a0 a1 a2=some true:=by
 obtain⟨n,M,q,hn,hP,hF⟩:=aI4 h0 (most:=5) (by omega) (by omega)
 obtain⟨u,u1,u2,u3⟩:=aBO (x:=a1) h1 (m:=9) (by omega)
 obtain⟨v,v1,v2,v3⟩:=aBO (x:=a2) h2 (m:=9) (by omega)
 obtain⟨c,c1,c2,c3⟩:=aMx (k:=8) (p:=1+u) (q:=1+v) (by omega) (by omega) (by omega) (by omega)
 have hp0:(0:Rat)<((1+u:Int):Rat):=Rat.intCast_pos.2 (by omega)
 have hr0:(0:Rat)<((1+v:Int):Rat):=Rat.intCast_pos.2 (by omega)
 have hc:0<c:=by rw [c2];exact aC7 hp0 hr0
 have hcr:c*((1+v:Int):Rat)=((1+u:Int):Rat):=by rw [c2];have:=vE hr0;grind
 refine⟨6000,?_⟩
 have hM:vU n n 12 M:=fun i k hi hk=>aDX (hP.1 i k hi hk)
 have hq:∀i,i<n→Bd 12 (q i):=fun i hi=>aDX (hP.2 i hi)
 have hM':vU n n 40 (fun i k=>c*M i k):=fun i k hi hk=>(c3.mul (hM i k hi hk)).mono (by omega)
 have hq':∀i,i<n→Bd 40 (c*q i):=fun i hi=>(c3.mul (hq i hi)).mono (by omega)
 have e36:((6^2:Nat):Rat)=36:=rfl
 have hz:∀x:Rat,dn 6 2 4000 x→isZ 40000 (x*(36*((1+v:Int):Rat)))∧isZ 40000 (c*x*(36*((1+v:Int):Rat))):=fun x hx=>by
  obtain⟨z,z1,z2⟩:=hx
  rw [e36] at z1
  refine⟨⟨z*(1+v),by rw [Rat.intCast_mul,←z1];grind,?_⟩,⟨z*(1+u),by rw [Rat.intCast_mul,←z1,←hcr];grind,?_⟩⟩
  ·rw [Int.natAbs_mul]
   exact Nat.le_trans (Nat.mul_le_mul z2 (show(1+v).natAbs≤9 by omega)) (by omega)
  ·rw [Int.natAbs_mul]
   exact Nat.le_trans (Nat.mul_le_mul z2 (show(1+u).natAbs≤9 by omega)) (by omega)
 have hD1:isZ 40000 (36*((1+v:Int):Rat)):=⟨36*(1+v),by rw [Rat.intCast_mul];rfl,by omega⟩
 have hD0:(36*((1+v:Int):Rat))≠0:=by
  have:=vE hr0
  have h36:(36:Rat)≠0:=by decide+kernel
  intro h;rcases Rat.mul_eq_zero.1 h with h|h
  ·exact h36 h
  ·exact this h
 have Z1:=aGm (n:=n) (M:=M) (q:=q) hD0 hD1 (fun i k hi hk=>(hz _ (hP.1 i k hi hk)).1) (fun i hi=>(hz _ (hP.2 i hi)).1) (by omega)
 have Z2:=aGm (n:=n) (M:=fun i k=>c*M i k) (q:=fun i=>c*q i) hD0 hD1 (fun i k hi hk=>(hz _ (hP.1 i k hi hk)).2) (fun i hi=>(hz _ (hP.2 i hi)).2) (by omega)
 have Z3:=aGm (n:=n) (M:=M) (q:=fun i=>c*q i) hD0 hD1 (fun i k hi hk=>(hz _ (hP.1 i k hi hk)).1) (fun i hi=>(hz _ (hP.2 i hi)).2) (by omega)
 have s800:((800:Nat):Int)=800:=rfl
 have S1:=(aDG (most:=800) (K:=6000) (hM.mono (show 12≤200 by omega)) (fun i hi=>(hq i hi).mono (by omega)) Z1 (by omega) (by omega) (by omega) (by omega) (by omega)).1
 have S2:=(aDG (most:=800) (K:=6000) (hM'.mono (show 40≤200 by omega)) (fun i hi=>(hq' i hi).mono (by omega)) Z2 (by omega) (by omega) (by omega) (by omega) (by omega)).1
 have S3:=(aDG (most:=800) (K:=6000) (hM.mono (show 12≤200 by omega)) (fun i hi=>(hq' i hi).mono (by omega)) Z3 (by omega) (by omega) (by omega) (by omega) (by omega)).1
 rw [aLb hc] at S2
 rw [aM2 hc] at S3
 rw [s800] at S1 S2 S3
 have A1:=aIi (K:=6000) hM hq (by omega) (by omega) (by omega) (by omega)
 have A2:=aIi (K:=6000) hM' hq' (by omega) (by omega) (by omega) (by omega)
 rw [aIc hc] at A2
 obtain⟨o1,o2⟩:=aGN hM hq (show n≤6 by omega) (by omega) (by omega) (2^n)
 have h64:2^n≤2^6:=Nat.pow_le_pow_right (by decide) (by omega)
 have SA:=aIE (K:=6000) o1 (by omega) (by omega) (by omega) (by omega) (by omega)
 have T1:=aEJ (K:=6000) hq c3 (by omega) (by omega) (by omega)
 have l36:=aJ6 (q:=mp q n) (K:=6000) hM c3 (by omega) (by omega) (by omega) n 0 6000 (by omega) (by omega)
 have zx:mx (fun i k=>c*M i k) 0 n=[]:=rfl
 rw [zx,Int.natCast_zero] at l36
 have hF':=hF 6000 (by omega)
 have s5:((5:Nat):Int)=5:=rfl
 rw [s5] at hF'
 have hL:=aI2 (K:=6000) (by omega)
 simp only [jN,hF',oB,u1,v1,oX (show -9223372036854775808≤1+u∧1+u≤9223372036854775807 by omega),oX (show -9223372036854775808≤1+v∧1+v≤9223372036854775807 by omega),c1,l36,hU,S1,T1,S2,S3,A1,A2,SA]
 have hzb:∃B,B≤1000∧Bds B (w9 M q n 800).1.z∧(w9 M q n 800).1.z.length≤10:=by
  by_cases h:(w9 M q n 800).2=0
  ·obtain⟨z1,z2⟩:=aQo (most:=800) Z1 (by omega) h
   exact⟨200,by omega,z2,by omega⟩
  ·have:=aKP (most:=800) (M:=M) (q:=q) (n:=n) h
   rw [this.1]
   exact⟨1,by omega,fun x hx=>absurd hx List.not_mem_nil,by simp⟩
 generalize w9 M q n 800=X at *
 obtain⟨B,hB,hb1,hb2⟩:=hzb
 have TL:=aK4 (K:=6000) hb1 c3 (by omega) (by omega) (by omega)
 have hb3:Bds (8+B+1) (X.1.z.map (c*·)):=fun x hx=>by
  obtain⟨y,y1,rfl⟩:=List.mem_map.1 hx
  exact(c3.mul (hb1 y y1)).mono (by omega)
 have E1:=aIK (K:=6000) hb1 (by omega) (by omega) (by omega)
 have E2:=aIK (K:=6000) hb3 (by omega) (by rw [List.length_map];omega) (by rw [List.length_map];omega)
 simp only [nF (rfl:X.2=X.2),bU,nF (rfl:(0:Int)=0),Bool.not_true,aMD,aL9,E1,oB,bY,TL,E2,hL]
end Go.Proofs.YtolfcbpgmfbgmaaGreat
