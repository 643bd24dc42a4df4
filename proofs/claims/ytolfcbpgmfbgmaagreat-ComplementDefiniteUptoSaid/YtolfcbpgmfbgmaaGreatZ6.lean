/- Texts of the proof, part 6: MN MP MU YC YD LD LS XL XF XA XU XV XW XX XY YE YF YG YH YI YJ YK YL YV WA WB WC WD YM XZ YN YO YP YQ YS YT YW WE VB MD SA SC VA WP WG WK WL WN WQ WR WS WT MX4 WU VC SD. -/
import Derived.Test.YtolfcbpgmfbgmaaGreatZ5
set_option linter.unusedSimpArgs false
set_option linter.unusedVariables false
namespace Go.Proofs.YtolfcbpgmfbgmaaGreat
theorem aIk{G f:Nat→Rat}{p:Nat}{a:Rat}:∀{n:Nat},p<n→sm (fun c=>G c*gN f p a c) n=sm (fun c=>G c*f c) n+G p*(a-f p)
 |0,h=>by omega
 |n+1,h=>by
  simp only[sm];by_cases he:p=n
  ·subst he;rw[aK (f:=fun c=>G c*gN f p a c) (g:=fun c=>G c*f c) fun i e=>by rw[aZ (by omega)],aN];grind
  ·rw[aIk (show p<n by omega),aZ (show n≠p by omega)];grind
def aKE(s:RS)(G:Nat→Rat)(a:Nat→Rat)(m:Nat):Rat:=sm (fun i=>G (qZ s.ps i)*a i) m
theorem aHo{s:RS}{w c:Nat}:∀m,m≤s.ps.length→(∀i,i<m→qZ s.ps i≠c)→aCw s w m c=0
 |0,_,_=>rfl
 |m+1,hm,h=>by
  unfold aCw;rw[aZ (fun e=>h m (by omega) e.symm)];exact aHo m (by omega) fun i f=>h i (by omega)
theorem aLL{h k:Nat}{s:RS}(hs:RJ h k s){i j:Nat}(e:i<s.ps.length)(f:j<s.ps.length)(hne:i≠j):qZ s.ps i≠qZ s.ps j:=by
 by_cases q:i<j
 ·have:=hs.inc i j q f;omega
 ·have:=hs.inc j i (by omega) e;omega
theorem aJo{h w k:Nat}{s:RS}(hs:RJ h k s)(e:k≤w)(G:Nat→Rat):∀m,m≤s.ps.length→sm (fun c=>G c*aCw s w m c) w=aKE s G (fun i=>s.g i w) m
 |0,_=>by
  unfold aKE;simp only[sm];exact dM fun i _=>by unfold aCw;grind
 |m+1,hm=>by
  unfold aCw;rw[aIk (by have:=hs.pk m (by omega);omega),aJo hs e G m (by omega),aHo m (by omega) fun i f=>aLL hs (by omega) (by omega) (by omega)];unfold aKE;simp only[sm];grind
theorem aJV{h k:Nat}{s:RS}(hs:RJ h k s){e:Nat}(j:e<h)(a:Nat→Rat):aKE s (s.g e) a s.ps.length=if e<s.ps.length then a e else 0:=by
 unfold aKE;split
 ·rename_i q;rw[kP (p:=e) q fun i f hne=>by rw[hs.one i e f j,if_neg (by omega)];grind];rw[hs.one e e q j,if_pos rfl];grind
 ·exact dM fun i f=>by rw[hs.one i e f j,if_neg (by omega)];grind
theorem aIY{h k:Nat}{s:RS}(hs:RJ h k s){x:Nat}:∀m,m≤s.ps.length→∀c,(∀i,i<m→qZ s.ps i≠c)→aFx s x m c=if c=x then 1 else 0
 |0,_,c,_=>by
  unfold aFx gN;split<;>rfl
 |m+1,hm,c,h=>by
  unfold aFx;rw[aZ (fun e=>h m (by omega) e.symm)];exact aIY hs m (by omega) c fun i f=>h i (by omega)
theorem aJm{h w k:Nat}{s:RS}(hs:RJ h k s)(j:k≤w){x:Nat}(e:x<w)(f:∀i,i<s.ps.length→qZ s.ps i≠x)(G:Nat→Rat):∀m,m≤s.ps.length→sm (fun c=>G c*aFx s x m c) w=G x-aKE s G (fun i=>s.g i x) m
 |0,_=>by
  unfold aFx aKE;rw[aIk e,dM fun i _=>by grind];simp only[sm];grind
 |m+1,hm=>by
  unfold aFx;rw[aIk (by have:=hs.pk m (by omega);omega),aJm hs j e f G m (by omega),aIY hs m (by omega) _ fun i q=>aLL hs (by omega) (by omega) (by omega),if_neg (f m (by omega))];unfold aKE;simp only[sm];grind
theorem aOO{g:Nat→Nat→Rat}{h w:Nat}{x:Nat}(s:x<w)(t:x∉(vO g h w).ps){i:Nat}(j:i<h):yP g (aFx (vO g h w) x (vO g h w).ps.length) w i=0:=by
 have k:=aDb (g:=g) (h:=h) w;have q:∀i,i<(vO g h w).ps.length→qZ (vO g h w).ps i≠x:=fun i j e=>t (e▸aEs j)
 refine(aFU (g:=g) (y:=aFx (vO g h w) x (vO g h w).ps.length) (n:=w) (h:=h) w).1 (fun u f=>?_) i j;unfold rd;rw[aJm k (Nat.le_refl _) s q _ _ (Nat.le_refl _),aJV k f];split
 ·grind
 ·rw[k.z u x (by omega) f s];grind
theorem aQI{g:Nat→Nat→Rat}{h w:Nat}{x:Nat}(f:x∉(vO g h w).ps):aFx (vO g h w) x (vO g h w).ps.length x=1:=by
 rw[aIY (aDb (g:=g) (h:=h) w) _ (Nat.le_refl _) x fun i j e=>f (e▸aEs j),if_pos rfl]
def ext(x:Nat→Rat)(w c:Nat):Rat:=if c<w then x c else -1
theorem aK8{G:Nat→Nat→Rat}{x:Nat→Rat}{w i:Nat}:rd G (ext x w) (w+1) i=sm (fun c=>G i c*x c) w-G i w:=by
 unfold rd;simp only[sm];rw[aK (f:=fun c=>G i c*ext x w c) (g:=fun c=>G i c*x c) fun c hc=>by unfold ext;rw[if_pos hc]];unfold ext;rw[if_neg (Nat.lt_irrefl w)];grind
theorem aMQ{g:Nat→Nat→Rat}{f x:Nat→Rat}{w i:Nat}:rd (wid g f w) (ext x w) (w+1) i=yP g x w i-f i:=by
 rw[aK8];have e:wid g f w i w=f i:=if_neg (Nat.lt_irrefl w);rw[e,aK (f:=fun c=>wid g f w i c*x c) (g:=fun c=>g i c*x c) fun c hc=>by unfold wid;rw[if_pos hc]];rfl
theorem aKt{g:Nat→Nat→Rat}{w:Nat}:∀(t n:Nat),(∀i,n≤i→i<n+t→g i w=0)→aDf g w t n=false
 |0,_,_=>rfl
 |t+1,n,h=>by
  unfold aDf;rw[if_pos (h n (Nat.le_refl _) (by omega))];exact aKt t (n+1) fun i e f=>h i (by omega) (by omega)
theorem aL2{g:Nat→Nat→Rat}{f x:Nat→Rat}{h w:Nat}:(∀i,i<h→yP g x w i=f i)↔(∀i,i<h→sm (fun c=>(vO (wid g f w) h w).g i c*x c) w=(vO (wid g f w) h w).g i w):=by
 have:=aFU (g:=wid g f w) (y:=ext x w) (n:=w+1) (h:=h) w;constructor
 ·intro hh i e;have j:=this.2 (fun i e=>by rw[aMQ,hh i e];grind) i e;rw[aK8]at j;grind
 ·intro hh i e;have j:=this.1 (fun i e=>by rw[aK8,hh i e];grind) i e;rw[aMQ]at j;grind
theorem aNJ{g:Nat→Nat→Rat}{f v:Nat→Rat}{h w:Nat}(hv:∀i,i<h→yP g v w i=f i):aCg g f h w=some (mp (aCw (vO (wid g f w) h w) w (vO (wid g f w) h w).ps.length) w)∧∀i,i<h→yP g (aCw (vO (wid g f w) h w) w (vO (wid g f w) h w).ps.length) w i=f i:=by
 have j:=aDb (g:=wid g f w) (h:=h) w;have hr:=aL2.1 hv;have hin:aDf (vO (wid g f w) h w).g w (h-(vO (wid g f w) h w).ps.length) (vO (wid g f w) h w).ps.length=false:=aKt _ _ fun i q t=>by
  have e:i<h:=by have:=j.ph;omega
  rw[←hr i e];exact dM fun c hc=>by rw[j.z i c q e hc];grind
 have s:∀i,i<h→¬i<(vO (wid g f w) h w).ps.length→(vO (wid g f w) h w).g i w=0:=fun i e k=>by
  rw[←hr i e];exact dM fun c hc=>by rw[j.z i c (by omega) e hc];grind
 refine⟨?_,?_⟩
 ·unfold aCg;simp only[hin];rfl
 ·refine aL2.2 fun i e=>?_
  rw[aJo j (Nat.le_refl _) _ _ (Nat.le_refl _),aJV j e];split
  ·rfl
  ·rename_i k;exact(s i e k).symm
theorem aGl{h w:Nat}{s:RS}(hs:RJ h w s):∀k,k≤w→∃m,m≤s.ps.length∧(∀i,i<s.ps.length→(i<m↔qZ s.ps i<k))∧(aK0 s w k).length+m=k
 |0,_=>⟨0,Nat.zero_le _,fun i _=>by omega,rfl⟩
 |k+1,x=>by
  obtain⟨m,u,t,y⟩:=aGl hs k (by omega);rw[aHu];by_cases hm:k∈s.ps
  ·obtain⟨i,f,he⟩:∃i,i<s.ps.length∧qZ s.ps i=k:=by
    obtain⟨i,f,he⟩:=List.mem_iff_getElem.1 hm;exact⟨i,f,by unfold qZ;rw[List.getD_eq_getElem?_getD,List.getElem?_eq_getElem f];exact he⟩
   have him:i=m:=by
    have a1:=t i f;by_cases hlt:m<i
    ·have:=hs.inc m i hlt f;have:=t m (by omega);omega
    ·omega
   subst him;rw[if_pos hm];refine⟨i+1,by omega,fun j q=>?_,by omega⟩;by_cases hji:j<i
   ·have:=hs.inc j i hji f;omega
   ·by_cases e:j=i
    ·subst e;omega
    ·have:=hs.inc i j (by omega) q;omega
  ·rw[if_neg hm];refine⟨m,u,fun j q=>?_,by rw[List.length_append,List.length_singleton];omega⟩;have:=t j q;have hne:qZ s.ps j≠k:=fun e=>hm (e▸aEs q)
   omega
/-- A turned matrix. -/
def tr(g:Nat→Nat→Rat)(i k:Nat):Rat:=g k i
theorem aGW{g:Nat→Nat→Rat}{h w c:Nat}(hh:h≤100)(hc:c<w)(K:Nat):∀(t i k:Nat),i+t=h→t<k→lN K (mx g h w) (c:Int) k (mp (mid (tr g c) (fun _=>0) i) h) (i:Int)=some (mp (tr g c) h)
 |0,i,k,x,q=>by
  obtain⟨u,rfl,_⟩:=aT q;have:i=h:=by omega
  subst this;simp only[lN,iE,dF (show¬(i:Int)<(i:Int) by omega),bG];rw[bW fun j y=>aFN y]
 |t+1,i,k,x,q=>by
  obtain⟨u,rfl,_⟩:=aT q;have s:i<h:=by omega
  have e:=aAn (f:=tr g c) (e:=fun _=>(0:Rat)) (c:=i);simp only[lN,iE,dT (show(i:Int)<(h:Int) by omega),bL,yO (g:=g) (w:=w) s,oB,cD (f:=g i) hc,cD (f:=mid (tr g c) (fun _=>0) i) s,vA (f:=mid (tr g c) (fun _=>0) i) s,qG (i:=i) (by omega)];have z:gN (mid (tr g c) (fun _=>0) i) i (g i c)=mid (tr g c) (fun _=>0) (i+1):=e;rw[z];exact aGW hh hc K t (i+1) u (by omega) (by omega)
theorem aGZ{g:Nat→Nat→Rat}{h w:Nat}(hh:h≤100)(hw:w≤100){K:Nat}(q:h<K):∀(t i k:Nat),i+t=w→t<k→jZ K (mx g h w) (w:Int) k (mx (tr g) i h) (i:Int)=some (mx (tr g) w h)
 |0,i,k,u,f=>by
  obtain⟨s,rfl,_⟩:=aT f;have:i=w:=by omega
  subst this;simp only[jZ,dF (show¬(i:Int)<(i:Int) by omega),bG]
 |t+1,i,k,u,f=>by
  obtain⟨s,rfl,_⟩:=aT f;have e:=aGW (g:=g) hh (show i<w by omega) K h 0 K (by omega) q;have x:mid (tr g i) (fun _=>(0:Rat)) 0=fun _=>0:=by funext j;exact if_neg (by omega)
  rw[x]at e;simp only[Int.natCast_zero]at e;have y:tC (mx (tr g) i h) [mp (tr g i) h]=some (mx (tr g) (i+1) h):=apM (g:=fun i=>mp (tr g i) h) (by omega);simp only[jZ,dT (show(i:Int)<(w:Int) by omega),bL,iE,aC4 (n:=h) (z:=(0:Rat)) (by omega),oB,e,tS,y,qG (i:=i) (by omega)];exact aGZ hh hw q t (i+1) s (by omega) (by omega)
theorem aHk{g:Nat→Nat→Rat}{h w:Nat}(hc:Cok h w)(hh:h≤100)(hw:w≤100){K:Nat}(f:w+h<K):sB K (mx g h w)=some (mx (tr g) w h):=by
 have:=aGZ (g:=g) hh hw (K:=K) (by omega) w 0 K (by omega) (by omega);have e:mx (tr g) 0 h=[]:=rfl;rw[e]at this;simp only[Int.natCast_zero]at this;simp only[sB,aCx hc,oB,this,tR]
def xE(g q:Nat→Nat→Rat)(w i j:Nat):Rat:=yP (tr q) (g i) w j
theorem aRu{g:Nat→Nat→Rat}{h w:Nat}(hc:Cok h w)(hh:h≤64)(hw:w≤64){K:Nat}(e:w+h<K):wM K (mx g h w)=some (mx (tr g) w h,0):=by
 simp only[wM,aA8 hc hh hw (K:=K) (by omega),oB,Bool.not_true,bG,aHk (g:=g) hc (show h≤100 by omega) (show w≤100 by omega) e]
theorem aVp:sgn 0=1:=rfl
def aAm(i c:Nat):Rat:=if i=c then 1 else 0
theorem aFK:∀n,dt n aAm=1
 |0=>rfl
 |n+1=>by
  rw[dt,kP (p:=0) (by omega) fun k _ f=>by unfold aAm;rw[if_neg (fun e=>f e.symm)];grind];have e:dt n (mnr aAm 0)=dt n aAm:=wL fun i c _ _=>by
   unfold mnr aAm skp;rw[if_neg (Nat.not_lt_zero c)];by_cases h:i=c
   ·rw[if_pos h,if_pos (by omega)]
   ·rw[if_neg h,if_neg (by omega)]
  rw[e,aFK n,aVp];unfold aAm;rw[if_pos rfl];grind
theorem aK6{h k:Nat}{s:RS}(hs:RJ h k s):∀i,i<s.ps.length→i≤qZ s.ps i
 |0,_=>Nat.zero_le _
 |i+1,e=>by
  have:=aK6 hs i (by omega);have:=hs.inc i (i+1) (by omega) e;omega
theorem aJu{h k:Nat}{s:RS}(hs:RJ h k s):∀t i,i+t+1=s.ps.length→qZ s.ps i+t<k
 |0,i,e=>hs.pk i (by omega)
 |t+1,i,e=>by
  have:=aJu hs t (i+1) (by omega);have:=hs.inc i (i+1) (by omega) (by omega);omega
theorem aPm{h k:Nat}{s:RS}(hs:RJ h k s)(e:s.ps.length=k){i:Nat}(f:i<k):qZ s.ps i=i:=by
 have j:=aK6 hs i (by omega);have q:=aJu hs (k-1-i) i (by omega);omega
theorem aN4{h k:Nat}{s:RS}(hs:RJ h k s):s.ps.length≤k:=by
 by_cases e:s.ps.length=0
 ·omega
 ·have f:=aK6 hs (s.ps.length-1) (by omega);have j:=hs.pk (s.ps.length-1) (by omega);omega
theorem aBi{h k:Nat}{s:RS}(hs:RJ h k s)(e:s.ps.length=k){i c:Nat}(f:i<h)(hc:c<k):s.g i c=if i=c then 1 else 0:=by
 have:=hs.one c i (by omega) f;rw[aPm hs e hc]at this;exact this
def aUM(g:Nat→Nat→Rat)(n:Nat):Rat:=if(vO g n n).ps.length=n then(vO g n n).d else 0
theorem aUN{g:Nat→Nat→Rat}{n:Nat}:dt n g=aUM g n:=by
 have e:=aDb (g:=g) (h:=n) n;unfold aUM;rw[(aF1 n).red0 (g:=g) n];split
 ·rename_i f;rw[wL (g':=aAm) fun i c j hc=>aBi e f j hc,aFK];grind
 ·rename_i f;have hlt:(vO g n n).ps.length<n:=by have:=e.ph;omega
  rw[wL (g':=fun i c=>if c<n then(vO g n n).g i c else 0) fun i c j hc=>by rw[if_pos hc],(aF1 n).zero (i:=n-1) (by omega) ?_]
  ·grind
  ·funext c;split
   ·rename_i hc;exact e.z (n-1) c (by omega) (by omega) hc
   ·rfl
theorem aOC(q:Nat→Nat→Rat)(n w:Nat):Alt n fun g=>dt n (xE g q w):=by
 have eu:∀(g:Nat→Nat→Rat) (f:Nat→Rat) (i:Nat),xE (gN g i f) q w=gN (xE g q w) i (fun j=>yP (tr q) f w j):=by
  intro g f i;funext j c;unfold xE;by_cases h:j=i
  ·subst h;rw[aN,aN]
  ·rw[aZ h,aZ h]
 refine⟨fun g g' h=>wL fun i c e _=>?_,fun g u v a i e=>?_,fun g i j e k hne=>?_⟩
 ·unfold xE;rw[h i e]
 ·show dt n _=dt n _-a*dt n _;rw[eu,eu,eu,←aLj e];congr 2;funext j;unfold yP;rw[←w7];exact aK fun c _=>by grind
 ·exact(aF1 n).swap (xE g q w) i j e k hne
theorem aPt{g q:Nat→Nat→Rat}{n:Nat}:dt n (xE g q n)=dt n g*dt n q:=by
 have f:=aDb (g:=g) (h:=n) n;have hm:dt n (xE g q n)=(vO g n n).d*dt n (xE (vO g n n).g q n):=(aOC q n n).red0 (g:=g) n;rw[hm,aUN (g:=g)];unfold aUM;split
 ·rename_i s;rw[wL (g:=xE (vO g n n).g q n) (g':=q) fun i c k hc=>?_];unfold xE yP tr;rw[kP (p:=i) k fun j t hne=>by rw[aBi f s k t,if_neg (fun e=>hne e.symm)];grind];rw[aBi f s k k,if_pos rfl];grind
 ·rename_i s;have hlt:(vO g n n).ps.length<n:=by have:=f.ph;omega
  rw[(aF1 n).zero (g:=xE (vO g n n).g q n) (i:=n-1) (by omega) (by
   funext c;unfold xE yP;exact dM fun j t=>by rw[f.z (n-1) j (by omega) (by omega) t];grind)]
  grind
def aG5(g:Nat→Nat→Rat)(h w:Nat):Nat:=(vO g h w).ps.length
def spr(ps:List Nat)(y:Nat→Rat):Nat→Nat→Rat
 |0=>fun _=>0
 |m+1=>gN (spr ps y m) (qZ ps m) (y m)
theorem aPd{h w:Nat}{s:RS}(hs:RJ h w s)(hlt:s.ps.length<w):∃x,x<w∧x∉s.ps:=by
 obtain⟨m,j,q,e⟩:=aGl hs w (Nat.le_refl _);refine Classical.byContradiction fun hno=>?_
 have:∀k,k≤w→(aK0 s w k)=[]:=by
  intro k
  induction k with
  |zero=>intro _;rfl
  |succ k ih=>
   intro t;rw[aHu,if_pos (Classical.byContradiction fun f=>hno ⟨k,by omega,f⟩)];exact ih (by omega)
 rw[this w (Nat.le_refl _)]at e;simp only[List.length_nil]at e;omega
theorem aP0{g:Nat→Nat→Rat}{h w:Nat}(f:aG5 g h w=w){y:Nat→Rat}(q:∀i,i<h→yP g y w i=0){c:Nat}(hc:c<w):y c=0:=by
 have k:=aDb (g:=g) (h:=h) w;have s:=(aFU (g:=g) (y:=y) (n:=w) (h:=h) w).2 q;have hch:c<h:=by have:=k.ph;unfold aG5 at f;omega
 have:=s c hch;unfold rd at this;rw[kP (p:=c) hc fun j t hne=>by rw[aBi k f hch t,if_neg (fun e=>hne e.symm)];grind,aBi k f hch hc,if_pos rfl]at this;grind
theorem aOa{g:Nat→Nat→Rat}{h w:Nat}(k:aG5 g h w≠w):∃y:Nat→Rat,(∀i,i<h→yP g y w i=0)∧∃c,c<w∧y c≠0:=by
 have e:=aDb (g:=g) (h:=h) w;obtain⟨x,f,j⟩:=aPd e (by have:=aN4 e;unfold aG5 at k;omega);exact⟨_,fun i q=>aOO (g:=g) f j q,x,f,by rw[aQI j];decide⟩
def est(g:Nat→Nat→Rat)(k i c:Nat):Rat:=if k<i then g i c-g i k/g k k*g k c else g i c
def ela(g:Nat→Nat→Rat):Nat→Nat→Nat→Rat
 |0=>g
 |k+1=>est (ela g k) k
theorem aKD{g:Nat→Nat→Rat}:∀k,(∀j,j<k→ela g j j j≠0)→∀i c,c<k→c<i→ela g k i c=0
 |0,_,i,c,h,_=>absurd h (by omega)
 |k+1,hp,i,c,hc,hci=>by
  rw[ela,est];have ih:=aKD k fun j e=>hp j (by omega)
  split
  ·rename_i h;by_cases he:c=k
   ·subst he;have:=hp c (by omega);rw[Rat.div_def,Rat.mul_assoc,Rat.inv_mul_cancel _ this];grind
   ·rw[ih i c (by omega) (by omega),ih k c (by omega) (by omega)];grind
  ·rename_i h;exact ih i c (by omega) (by omega)
def aFC(g:Nat→Nat→Rat)(n:Nat):Prop:=∀k,k<n→0<ela g k k k
theorem pW{f:Nat→Rat}:∀{n:Nat},(∀i,i<n→0≤f i)→0≤sm f n
 |0,_=>Rat.le_refl
 |n+1,h=>by
  have e:=pW (f:=f) (n:=n) fun i j=>h i (by omega)
  have k:=h n (by omega);simp only[sm];grind
theorem aCQ(a:Rat):0≤a*a:=by
 rcases Rat.le_total (a:=0) (b:=a) with h|h
 ·exact Rat.mul_nonneg h h
 ·have:=Rat.mul_nonneg (a:=-a) (b:=-a) (by grind) (by grind);grind
theorem aSu{f:Nat→Rat}:∀{n:Nat},sm (fun i=>f i*f i) n=0→∀i,i<n→f i=0
 |0,_,i,e=>absurd e (by omega)
 |n+1,h,i,e=>by
  simp only[sm]at h;have j:=pW (f:=fun i=>f i*f i) (n:=n) fun i _=>aCQ _
  have k:=aCQ (f n);by_cases he:i=n
  ·subst he;have:f i*f i=0:=by grind
   rcases Rat.mul_eq_zero.1 this with h|h<;>exact h
  ·exact aSu (n:=n) (by grind) i (by omega)
/-- The unit matrix with one column replaced. -/
def aKl(i:Nat)(x:Nat→Rat)(r c:Nat):Rat:=if c=i then x r else if r=c then 1 else 0
theorem aRs{n i:Nat}(j:i<n)(x:Nat→Rat):dt n (aKl i x)=x i:=by
 have a:=aF1 n;have q:aKl i x=gN (aKl i x) i (fun c=>x i*aAm i c):=by
  funext r c;by_cases h:r=i
  ·subst h;rw[aN];unfold aKl aAm;by_cases f:c=r
   ·rw[if_pos f,if_pos f.symm,Rat.mul_one]
   ·rw[if_neg f,if_neg (show¬r=c from fun e=>f e.symm),Rat.mul_zero]
  ·rw[aZ h]
 have s:dt n (gN (aKl i x) i (aAm i))=1:=by
  rw[←a.elm0 (g:=gN (aKl i x) i (aAm i)) (n:=i) (k:=i) j n (Nat.le_refl n),←aFK n];refine wL fun r c hr hc=>?_
  unfold elm;by_cases h:r=i
  ·subst h;rw[if_neg (fun f=>f.2 rfl),aN]
  ·rw[if_pos ⟨hr,h⟩,aZ h,aN];unfold aKl aAm;rw[if_pos rfl];by_cases f:c=i
   ·rw[if_pos f,if_pos f.symm,Rat.mul_one,Rat.sub_self,if_neg (by omega)]
   ·rw[if_neg f,if_neg (show¬i=c from fun e=>f e.symm),Rat.mul_zero,Rat.sub_eq_add_neg,Rat.neg_zero,Rat.add_zero]
 rw[q,a.scale j,s,Rat.mul_one]
def aLk(Z:Nat→Nat→Rat)(b:Nat→Nat)(r j:Nat):Rat:=Z r (b j)
def aHW(Z:Nat→Nat→Rat)(b:Nat→Nat)(i k:Nat)(r j:Nat):Rat:=if j=i then Z r k else Z r (b j)
theorem aUT{n w:Nat}{E Z T:Nat→Nat→Rat}{b:Nat→Nat}(f:∀i c,i<n→c<w→T i c=xE E Z n i c)(hb:∀j,j<n→b j<w)(hu:∀i j,i<n→j<n→T i (b j)=if i=j then 1 else 0){i k:Nat}(t:i<n)(u:k<w):dt n (aLk Z b)≠0∧T i k=dt n (aHW Z b i k)/dt n (aLk Z b):=by
 have q:dt n E*dt n (aLk Z b)=1:=by
  rw[←aPt,←aFK n];refine wL fun r c hr hc=>?_
  show xE E Z n r (b c)=_;rw[←f r (b c) hr (hb c hc),hu r c hr hc];rfl
 have x:dt n E*dt n (aHW Z b i k)=T i k:=by
  rw[←aPt,←aRs t (fun r=>T r k)];refine wL fun r c hr hc=>?_
  unfold aKl;by_cases h:c=i
  ·rw[if_pos h];show _=T r k;rw[f r k hr u];unfold xE yP tr aHW;simp[h]
  ·rw[if_neg h,←hu r c hr hc,f r (b c) hr (hb c hc)];unfold xE yP tr aHW;simp[h]
 have hne:dt n (aLk Z b)≠0:=fun e=>by rw[e,Rat.mul_zero]at q;exact absurd q (by decide)
 refine⟨hne,?_⟩;rw[←x,Rat.div_def];have:dt n E=(dt n (aLk Z b))⁻¹:=by
  have s:=congrArg (·*(dt n (aLk Z b))⁻¹) q;simp only[Rat.mul_assoc,Rat.mul_inv_cancel _ hne,Rat.mul_one,Rat.one_mul]at s;exact s
 rw[this,Rat.mul_comm]
def xX(M:Nat)(x:Rat):Prop:=∃q:Int,x=(q:Rat)∧q.natAbs≤M
def fM(M:Nat):Nat→Nat
 |0=>1
 |n+1=>(n+1)*(M*fM M n)
theorem xX.mono{M N:Nat}{x:Rat}(h:xX M x)(f:M≤N):xX N x:=by
 obtain⟨q,e,j⟩:=h;exact⟨q,e,by omega⟩
theorem xX.add{M N:Nat}{x y:Rat}(h:xX M x)(k:xX N y):xX (M+N) (x+y):=by
 obtain⟨q,e,j⟩:=h;obtain⟨p,f,s⟩:=k;exact⟨q+p,by rw[e,f,Rat.intCast_add],by omega⟩
theorem xX.mul{M N:Nat}{x y:Rat}(h:xX M x)(k:xX N y):xX (M*N) (x*y):=by
 obtain⟨q,e,f⟩:=h;obtain⟨p,j,s⟩:=k;exact⟨q*p,by rw[e,j,Rat.intCast_mul],by rw[Int.natAbs_mul];exact Nat.mul_le_mul f s⟩
theorem xX.zero:xX 0 0:=⟨0,rfl,Nat.le_refl _⟩
theorem aVC(k:Nat):xX 1 (sgn k):=by
 unfold sgn;split
 ·exact⟨1,rfl,by decide⟩
 ·exact⟨-1,rfl,by decide⟩
theorem aV7{f:Nat→Rat}{M:Nat}:∀n,(∀i,i<n→xX M (f i))→xX (n*M) (sm f n)
 |0,_=>by rw[Nat.zero_mul];exact xX.zero
 |n+1,h=>by
  have:=(aV7 n fun i e=>h i (by omega)).add (h n (by omega));rw[Nat.succ_mul];exact this
theorem aUo{M:Nat}:∀(n:Nat) (g:Nat→Nat→Rat),(∀i c,i<n→c<n→xX M (g i c))→xX (fM M n) (dt n g)
 |0,g,h=>⟨1,rfl,Nat.le_refl _⟩
 |n+1,g,h=>aV7 (n+1) fun k f=>by
  have j:=aUo n (mnr g k) fun i c q hc=>h (i+1) (skp k c) (by omega) (aPZ hc)
  have e:=(aVC k).mul ((h 0 k (by omega) f).mul j);rw[Nat.one_mul]at e
  first|exact e|(rw[Rat.mul_assoc];exact e)
theorem aNB{n w M k:Nat}{E Z T:Nat→Nat→Rat}{b:Nat→Nat}(t:∀i c,i<n→c<w→T i c=xE E Z n i c)(hb:∀j,j<n→b j<w)(hu:∀i j,i<n→j<n→T i (b j)=if i=j then 1 else 0)(f:∀i c,i<n→c<w→xX M (Z i c))(hM:fM M n<2^k):qX n w k T:=fun i c u hc=>by
 obtain⟨x,y⟩:=aUT t hb hu u hc;obtain⟨p,z,F⟩:=aUo n (aHW Z b i c) fun r j hr h=>by
  unfold aHW;split
  ·exact f r c hr hc
  ·exact f r (b j) hr (hb j h)
 obtain⟨q,s,G⟩:=aUo n (aLk Z b) fun r j hr h=>f r (b j) hr (hb j h)
 rw[y,z,s];refine Bd.of (fun e=>x (by rw[s,e];rfl)) (Nat.lt_of_le_of_lt F hM) (Nat.lt_of_le_of_lt G hM)
/-- A tableau: its rows are combinations of those of Z, and the columns of the basic variables are those of the unit matrix. -/
structure TI (n w:Nat) (Z T:Nat→Nat→Rat) (b:Nat→Nat):Prop where
 ex:∃E:Nat→Nat→Rat,∀i c,i<n→c<w→T i c=xE E Z n i c
 lt:∀j,j<n→b j<w
 un:∀i j,i<n→j<n→T i (b j)=if i=j then 1 else 0
def qC(T:Nat→Nat→Rat)(r c i k:Nat):Rat:=if i=r then T r k/T r c else T i k-T i c*(T r k/T r c)
theorem vX{E Z:Nat→Nat→Rat}{n i k:Nat}:xE E Z n i k=sm (fun j=>Z j k*E i j) n:=by
 unfold xE yP tr
 first|rfl|(refine aK fun j _=>?_;first|rfl|exact Rat.mul_comm _ _)
theorem TI.pivot{n w:Nat}{Z T:Nat→Nat→Rat}{b:Nat→Nat}(h:TI n w Z T b){r c:Nat}(hr:r<n)(hc:c<w)(hp:T r c≠0):TI n w Z (qC T r c) (gN b r c):=by
 obtain⟨⟨E,t⟩,hb,hu⟩:=h;refine⟨⟨fun i j=>if i=r then E r j/T r c else E i j-T i c*(E r j/T r c),fun i k s u=>?_⟩,fun j q=>?_,fun i j s q=>?_⟩
 ·rw[vX];have x:T r k/T r c=sm (fun j=>Z j k*(E r j/T r c)) n:=by
   rw[t r k hr u,vX,Rat.div_def,Rat.mul_comm,←mY];refine aK fun j _=>?_
   rw[Rat.div_def,Rat.mul_comm,Rat.mul_assoc]
  unfold qC;by_cases e:i=r
  ·rw[if_pos e,x];exact aK fun j _=>by rw[if_pos e]
  ·rw[if_neg e,t i k s u,vX,x,←mY,Rat.sub_eq_add_neg,←uB,←aA1];refine aK fun j _=>?_
   rw[if_neg e,Rat.sub_eq_add_neg,Rat.mul_add,Rat.mul_neg,←Rat.mul_assoc,←Rat.mul_assoc,Rat.mul_comm (T i c)]
 ·by_cases e:j=r
  ·rw[e,aN];exact hc
  ·rw[aZ e];exact hb j q
 ·unfold qC;by_cases e:j=r
  ·rw[e,aN,Rat.div_def,Rat.mul_inv_cancel _ hp];by_cases f:i=r
   ·rw[if_pos f,if_pos f]
   ·rw[if_neg f,if_neg f,Rat.mul_one,Rat.sub_self]
  ·have y:T r (b j)=0:=by rw[hu r j hr q,if_neg fun h=>e h.symm]
   rw[aZ e,y,Rat.div_def,Rat.zero_mul];by_cases f:i=r
   ·rw[if_pos f,if_neg (by omega)]
   ·rw[if_neg f,Rat.mul_zero,Rat.sub_eq_add_neg,Rat.neg_zero,Rat.add_zero];exact hu i j s q
theorem TI.start{n w:Nat}{Z:Nat→Nat→Rat}(hw:n≤w)(s:∀i j,i<n→j<n→Z i j=if i=j then 1 else 0):TI n w Z Z (fun j=>j):=
 ⟨⟨aAm,fun i c f hc=>by
  rw[vX];have:sm (fun j=>Z j c*aAm i j) n=sm (fun j=>if j=i then Z i c else 0) n:=aK fun j _=>by
   unfold aAm;by_cases e:j=i
   ·rw[if_pos e,e,if_pos rfl,Rat.mul_one]
   ·rw[if_neg e,if_neg (fun h=>e h.symm),Rat.mul_zero]
  rw[this];have key:∀m,m≤n→sm (fun j=>if j=i then Z i c else 0) m=if i<m then Z i c else 0:=by
   intro m
   induction m with
   |zero=>intro _;rw[if_neg (by omega)];rfl
   |succ m ih=>
    intro hm;show sm _ m+(if m=i then Z i c else 0)=_;rw[ih (by omega)];by_cases e:m=i
    ·rw[if_pos e,if_neg (by omega),if_pos (by omega),Rat.zero_add]
    ·rw[if_neg e,Rat.add_zero];by_cases k:i<m
     ·rw[if_pos k,if_pos (by omega)]
     ·rw[if_neg k,if_neg (by omega)]
  rw[key n (Nat.le_refl n),if_pos f]⟩,fun j q=>by omega,fun i j f q=>s i j f q⟩
theorem aSY{M:Nat}:∀n,n≤64→fM M n≤(64*M)^n
 |0,_=>Nat.le_refl _
 |n+1,h=>by
  show(n+1)*(M*fM M n)≤_;rw[Nat.pow_succ,Nat.mul_comm ((64*M)^n),←Nat.mul_assoc];exact Nat.mul_le_mul (Nat.mul_le_mul_right M h) (aSY n (by omega))
theorem TI.scale{n w:Nat}{Z T:Nat→Nat→Rat}{b:Nat→Nat}(h:TI n w Z T b){D:Rat}(e:D≠0):TI n w (fun i c=>Z i c*D) T b:=by
 obtain⟨⟨E,f⟩,hb,hu⟩:=h;refine⟨⟨fun i j=>E i j/D,fun i c k hc=>?_⟩,hb,hu⟩;rw[f i c k hc,vX,vX];refine aK fun j _=>?_
 rw[Rat.div_def,Rat.mul_comm (E i j),Rat.mul_assoc,←Rat.mul_assoc D,Rat.mul_inv_cancel _ e,Rat.one_mul]
theorem TI.bd{n w M k:Nat}{Z T:Nat→Nat→Rat}{b:Nat→Nat}{D:Rat}(h:TI n w Z T b)(e:D≠0)(f:∀i c,i<n→c<w→xX M (Z i c*D))(j:n≤64)(hM:(64*M)^n<2^k):qX n w k T:=by
 obtain⟨⟨E,q⟩,hb,hu⟩:=h.scale e;exact aNB q hb hu f (Nat.lt_of_le_of_lt (aSY n j) hM)
theorem aLV{m:Nat}{a:Rat}(e:Bd m a)(hm:m≤1073741824):aQo a=some true:=by unfold aQo;rw[e.qs hm];rfl
def z0:Nat→Rat:=fun _=>0
def ek(k:Nat):Nat→Rat:=gN z0 k 1
theorem aSI:qof 1 1=some 1:=by rw[aIL (by omega) (by omega),aPQ]
def ord(N:Nat):List Nat:=mp (fun i=>i+1) N
theorem aQg:Bd 8 (1:Rat):=(show Bd 1 (1:Rat) by constructor<;>decide).mono (by omega)
/-- A number that is whole when it is multiplied so often. -/
def dn(D e M:Nat)(x:Rat):Prop:=xX M (x*((D^e:Nat):Rat))
theorem dn.mono{D e M N:Nat}{x:Rat}(h:dn D e M x)(f:M≤N):dn D e N x:=xX.mono h f
theorem dn.zero{D e M:Nat}:dn D e M 0:=⟨0,by rw[Rat.zero_mul];rfl,Nat.zero_le _⟩
theorem dn.add{D e M N:Nat}{x y:Rat}(h:dn D e M x)(k:dn D e N y):dn D e (M+N) (x+y):=by
 unfold dn;rw[Rat.add_mul];exact xX.add h k
theorem dn.neg{D e M:Nat}{x:Rat}(h:dn D e M x):dn D e M (-x):=by
 obtain⟨q,f,j⟩:=h;exact⟨-q,by rw[Rat.neg_mul,f,Rat.intCast_neg],by omega⟩
theorem dn.mul{D e f M N:Nat}{x y:Rat}(h:dn D e M x)(k:dn D f N y):dn D (e+f) (M*N) (x*y):=by
 have:=xX.mul h k;unfold dn;rw[Nat.pow_add,Rat.natCast_mul];have j:x*y*(((D^e:Nat):Rat)*((D^f:Nat):Rat))=x*((D^e:Nat):Rat)*(y*((D^f:Nat):Rat)):=by
  rw[Rat.mul_assoc,←Rat.mul_assoc y,Rat.mul_comm y,Rat.mul_assoc ((D^e:Nat):Rat),←Rat.mul_assoc]
 rw[j];exact this
theorem dn.up{D e M:Nat}{x:Rat}(h:dn D e M x):dn D (e+1) (M*D) x:=by
 have f:dn D 1 D 1:=⟨(D:Int),by rw[Rat.one_mul,Nat.pow_one];rfl,by simp⟩;have:=h.mul f
 rwa [Rat.mul_one]at this
/-- The first tableau. -/
def pH(M:Nat→Nat→Rat)(q:Nat→Rat)(n i c:Nat):Rat:=
 if c<n then(if i=c then 1 else 0) else if c<2*n then -(M i (c-n)) else if c=2*n then -1 else q i
theorem aLt{M:Nat→Nat→Rat}{q:Nat→Rat}{n:Nat}:TI n (2*n+2) (pH M q n) (pH M q n) (fun j=>j):=TI.start (by omega) fun i j f e=>if_pos e
/-- The rows of a tableau as they lie. -/
structure tE (n w:Nat) (rs:List (List Rat)) (od:Nat→Nat) (T:Nat→Nat→Rat):Prop where
 lt:∀i,i<n→od i<rs.length
 inj:∀i j,i<n→j<n→od i=od j→i=j
 row:∀i,i<n→rs.getD (od i) []=mp (T i) w
def l7(n j:Nat):Nat:=if j=0 then 2*n+1 else j-1
def lx(T:Nat→Nat→Rat)(n i:Nat)(c:Rat)(k:Nat)(d:Rat):Nat→Nat→Bool
 |0,_=>false
 |t+1,j=>bif decide (T i (l7 n j)/c=T k (l7 n j)/d) then lx T n i c k d t (j+1) else decide (T i (l7 n j)/c<T k (l7 n j)/d)
def les(T:Nat→Nat→Rat)(n i:Nat)(c:Rat)(k:Nat)(d:Rat):Bool:=lx T n i c k d (n+1) 0
theorem aMO{m k:Nat}{a b:Rat}(e:Bd m a)(hb:Bd k b)(hm:m≤1073741824)(f:k≤1073741824):aPk a b=some (if a<b then -1 else if b<a then 1 else 0):=by
 unfold aPk;rw[e.qs hm,hb.qs f];rfl
theorem aFe{a b:Rat}:((if a<b then -1 else if b<a then 1 else 0:Int)=0↔a=b)∧decide ((if a<b then -1 else if b<a then 1 else 0:Int)<0)=decide (a<b):=by
 by_cases h:a<b
 ·rw[if_pos h];refine⟨⟨fun e=>absurd e (by decide),fun e=>?_⟩,by rw[decide_eq_true h];rfl⟩;rw[e]at h;exact absurd h (Rat.lt_irrefl)
 ·rw[if_neg h];by_cases e:b<a
  ·rw[if_pos e];refine⟨⟨fun f=>absurd f (by decide),fun f=>?_⟩,by rw[decide_eq_false h];rfl⟩;rw[f]at e;exact absurd e (Rat.lt_irrefl)
  ·rw[if_neg e];exact⟨⟨fun _=>Rat.le_antisymm (Rat.not_lt.1 e) (Rat.not_lt.1 h),fun _=>rfl⟩,by rw[decide_eq_false h];rfl⟩
theorem aR7{n j:Nat}(h:j≤n):l7 n j<2*n+2:=by unfold l7;split<;>omega
theorem aHN{n:Nat}{rs:List (List Rat)}{od:Nat→Nat}{T:Nat→Nat→Rat}(hr:tE n (2*n+2) rs od T){B C:Nat}(s:qX n (2*n+2) B T){i k:Nat}(u:i<n)(x:k<n){c d:Rat}(hc:Bd C c)(y:Bd C d)(z:B+C≤500000000)(I:n≤1000)(K:Nat):
  ∀(t j fu:Nat),j+t=n+1→t<fu→aU K (i:Int) c (k:Int) d (n:Int) (mp od n) rs fu ((j:Int)-1)=some (.ret (lx T n i c k d t j))∨(lx T n i c k d t j=false∧aU K (i:Int) c (k:Int) d (n:Int) (mp od n) rs fu ((j:Int)-1)=some (.go ()))
 |0,j,fu,J,F=>by
  obtain⟨fu',rfl,_⟩:=aT F;refine .inr ⟨rfl,?_⟩;simp only[aU,dF (show¬(j:Int)-1<(n:Int) by omega),bG]
 |t+1,j,fu,J,F=>by
  obtain⟨fu',rfl,_⟩:=aT F;have q:=aR7 (n:=n) (j:=j) (by omega);have L:=(s i _ u q).div hc;have b2:=(s k _ x q).div y;have ih:=aHN hr s u x hc y z I K t (j+1) fu' (by omega) (by omega);have key:eK K (i:Int) c (k:Int) d (mp od n) rs ((j:Int)-1) (aU K (i:Int) c (k:Int) d (n:Int) (mp od n) rs fu') ((l7 n j:Nat):Int)=bif decide (T i (l7 n j)/c=T k (l7 n j)/d) then aU K (i:Int) c (k:Int) d (n:Int) (mp od n) rs fu' (((j+1:Nat):Int)-1) else some (.ret (decide (T i (l7 n j)/c<T k (l7 n j)/d))):=by
   simp only[eK,cD (f:=od) u,cD (f:=od) x,oB,hr.row i u,hr.row k x,cD (f:=T i) q,cD (f:=T k) q,aBw (s i _ u q) hc (by omega) (by omega),aBw (s k _ x q) y (by omega) (by omega),aMO L b2 (by omega) (by omega)];by_cases h:T i (l7 n j)/c=T k (l7 n j)/d
   ·rw[nF (aFe.1.2 h),bG,decide_eq_true h,bL,tI (by omega),oB];congr 1;omega
   ·rw[nT (fun O=>h (aFe.1.1 O)),bL,decide_eq_false h,bG,aFe.2]
  have main:aU K (i:Int) c (k:Int) d (n:Int) (mp od n) rs (fu'+1) ((j:Int)-1)=bif decide (T i (l7 n j)/c=T k (l7 n j)/d) then aU K (i:Int) c (k:Int) d (n:Int) (mp od n) rs fu' (((j+1:Nat):Int)-1) else some (.ret (decide (T i (l7 n j)/c<T k (l7 n j)/d))):=by
   rw[←key];by_cases G:j=0
   ·subst G;have c1:aV (2*(n:Int))=some (2*(n:Int)):=tI (by omega);have U:aV (2*(n:Int)+1)=some ((l7 n 0:Nat):Int):=by
     rw[tI (by omega)];congr 1
    simp only[aU,dT (show((0:Nat):Int)-1<(n:Int) by omega),bL,dT (show((0:Nat):Int)-1<0 by omega),c1,U,oB]
   ·have e:((l7 n j:Nat):Int)=(j:Int)-1:=by unfold l7;rw[if_neg G];omega
    rw[e];simp only[aU,dT (show(j:Int)-1<(n:Int) by omega),bL,dF (show¬(j:Int)-1<0 by omega),bG]
  rw[main];have el:lx T n i c k d (t+1) j=bif decide (T i (l7 n j)/c=T k (l7 n j)/d) then lx T n i c k d t (j+1) else decide (T i (l7 n j)/c<T k (l7 n j)/d):=rfl;rw[el];by_cases h:T i (l7 n j)/c=T k (l7 n j)/d
  ·rw[decide_eq_true h,bL,bL];exact ih
  ·rw[decide_eq_false h,bG,bG];exact .inl rfl
theorem aJL{n:Nat}{rs:List (List Rat)}{od:Nat→Nat}{T:Nat→Nat→Rat}{a6:List Int}(hr:tE n (2*n+2) rs od T){B C:Nat}(f:qX n (2*n+2) B T){i k:Nat}(j:i<n)(q:k<n){c d:Rat}(hc:Bd C c)(s:Bd C d)(e:B+C≤500000000)(t:n≤1000){K:Nat}(y:2000≤K):eS K (i:Int) c (k:Int) d (n:Int) (mp od n) a6 rs=some (les T n i c k d):=by
 have:=aHN hr f j q hc s e t K (n+1) 0 K (by omega) (by omega);rw[show((0:Nat):Int)-1=-1 from rfl]at this;rcases this with h|⟨u,x⟩
 ·simp only[eS,h,oB];rfl
 ·simp only[eS,x,oB,kL];exact congrArg some u.symm
def y7(T:Nat→Nat→Rat)(r c k:Nat):Rat:=T r k/T r c
theorem aH9{n w r c B k:Nat}{T:Nat→Nat→Rat}(e:qX n w B T)(hr:r<n)(hc:c<w)(f:k<w):Bd (B+B) (y7 T r c k):=(e r k hr f).div (e r c hr hc)
theorem aT9{xs ys:List Rat}(h:xs.length=ys.length):cpL xs ys=ys:=by
 unfold cpL;rw[h,Nat.min_self,List.take_length,←h,List.drop_length,List.append_nil]
theorem aBd{rs:List (List Rat)}{o p:Nat}{x:List Rat}(f:o<rs.length):(rs.set o x).getD p []=if p=o then x else rs.getD p []:=by
 rw[List.getD_eq_getElem?_getD,List.getD_eq_getElem?_getD,List.getElem?_set];by_cases h:o=p
 ·subst h;rw[if_pos rfl,if_pos f,if_pos rfl];rfl
 ·rw[if_neg h,if_neg (fun e=>h e.symm)]
theorem tE.set{n w:Nat}{rs:List (List Rat)}{od:Nat→Nat}{T:Nat→Nat→Rat}(h:tE n w rs od T){i:Nat}(q:i<n)(f:Nat→Rat):tE n w (rs.set (od i) (mp f w)) od (gN T i f):=
 ⟨fun j k=>by rw[List.length_set];exact h.lt j k,h.inj,fun j k=>by
  rw[aBd (h.lt i q)];by_cases e:j=i
  ·subst e;rw[if_pos rfl,aN]
  ·rw[if_neg (fun s=>e (h.inj j i k q s)),aZ e];exact h.row j k⟩
theorem tE.congr{n w:Nat}{rs:List (List Rat)}{od:Nat→Nat}{T T':Nat→Nat→Rat}(h:tE n w rs od T)(e:∀i k,i<n→k<w→T i k=T' i k):tE n w rs od T':=
 ⟨h.lt,h.inj,fun i f=>by rw[h.row i f];exact bW fun k j=>e i k f j⟩
theorem aJ1{w h B:Nat}{a5:List (List Rat)}{q:List Rat}{g:Nat→Rat}{p:Rat}(s:cpL q (a5.getD h [])=mp g w)(x:∀k,k<w→Bd B (g k))(hp:Bd B p)(hB:B≤1073741824)(hw:w≤100000)(K:Nat):∀(t k fu:Nat),k+t=w→t<fu→cY K a5 q h p fu (mp (fun j=>if j<k then g j/p else g j) w) (k:Int)=some (mp (fun j=>g j/p) w)
 |0,k,fu,y,u=>by
  obtain⟨fu',rfl,_⟩:=aT u;have e:k=w:=by omega
  subst e;simp only[cY,s,aO,dF (show¬(k:Int)<(k:Int) by omega),bG];exact congrArg some (bW fun j z=>if_pos z)
 |t+1,k,fu,y,u=>by
  obtain⟨fu',rfl,_⟩:=aT u;have hkw:k<w:=by omega
  have F:(fun j=>if j<k then g j/p else g j) k=g k:=if_neg (by omega);have G:mp (gN (fun j=>if j<k then g j/p else g j) k (g k/p)) w=mp (fun j=>if j<k+1 then g j/p else g j) w:=bW fun j _=>by
   by_cases e:j=k
   ·subst e;rw[aN,if_pos (by omega)]
   ·rw[aZ e];by_cases hlt:j<k
    ·rw[if_pos hlt,if_pos (by omega)]
    ·rw[if_neg hlt,if_neg (by omega)]
  simp only[cY,s,aO,dT (show(k:Int)<(w:Int) by omega),bL,cD (f:=fun j=>if j<k then g j/p else g j) hkw,F,oB,aBw (x k hkw) hp hB hB,vA (f:=fun j=>if j<k then g j/p else g j) hkw,G,qG (i:=k) (by omega)];exact aJ1 s x hp hB hw K t (k+1) fu' (by omega) (by omega)
theorem aHC{w o B:Nat}{a5 h:List (List Rat)}{g q:Nat→Rat}{x:Rat}(u:o<h.length)(hne:a5.length≠o)(s:h.getD o []=mp g w)(hq:h.getD a5.length []=mp q w)(G:∀k,k<w→Bd B (g k))(hqb:∀k,k<w→Bd (B+B) (q k))(y:Bd B x)(hB:B≤200000000)(hw:w≤100000)(K:Nat):∀(t k fu:Nat),k+t=w→t<fu→cS K a5 h o x fu (h.set o (mp (fun j=>if j<k then g j-x*q j else g j) w)) (k:Int)=some (h.set o (mp (fun j=>g j-x*q j) w))
 |0,k,fu,I,F=>by
  obtain⟨fu',rfl,_⟩:=aT F;have e:k=w:=by omega
  subst e;simp only[cS,s,aO,dF (show¬(k:Int)<(k:Int) by omega),bG];exact congrArg (fun z=>some (h.set o z)) (bW fun j J=>if_pos J)
 |t+1,k,fu,I,F=>by
  obtain⟨fu',rfl,_⟩:=aT F;have hkw:k<w:=by omega
  have L:(fun j=>if j<k then g j-x*q j else g j) k=g k:=if_neg (by omega);have O:mp (gN (fun j=>if j<k then g j-x*q j else g j) k (g k-x*q k)) w=mp (fun j=>if j<k+1 then g j-x*q j else g j) w:=bW fun j _=>by
   by_cases e:j=k
   ·subst e;rw[aN,if_pos (by omega)]
   ·rw[aZ e];by_cases hlt:j<k
    ·rw[if_pos hlt,if_pos (by omega)]
    ·rw[if_neg hlt,if_neg (by omega)]
  have U:(h.set o (mp (fun j=>if j<k then g j-x*q j else g j) w)).getD o []=mp (fun j=>if j<k then g j-x*q j else g j) w:=by rw[aBd u,if_pos rfl]
  have V:(h.set o (mp (fun j=>if j<k then g j-x*q j else g j) w)).getD a5.length []=mp q w:=by rw[aBd u,if_neg hne];exact hq
  simp only[cS,s,aO,dT (show(k:Int)<(w:Int) by omega),bL,U,V,cD (f:=fun j=>if j<k then g j-x*q j else g j) hkw,cD (f:=q) hkw,L,oB,yX y (hqb k hkw) (by omega) (by omega),aBF (G k hkw) (y.mul (hqb k hkw)) (by omega) (by omega),vA (f:=fun j=>if j<k then g j-x*q j else g j) hkw,O,List.set_set,qG (i:=k) (by omega)];exact aHC u hne s hq G hqb y hB hw K t (k+1) fu' (by omega) (by omega)
def pst(T:Nat→Nat→Rat)(r c t i k:Nat):Rat:=if i<t∨i=r then qC T r c i k else T i k
theorem aPh{T:Nat→Nat→Rat}{r c t:Nat}:∀i k,(gN (pst T r c t) t (qC T r c t)) i k=pst T r c (t+1) i k:=fun i k=>by
 by_cases e:i=t
 ·subst e;rw[aN];unfold pst;rw[if_pos (.inl (by omega))]
 ·rw[aZ e];unfold pst;by_cases h:i<t∨i=r
  ·rw[if_pos h,if_pos (by omega)]
  ·rw[if_neg h,if_neg (by omega)]
theorem aKi{T:Nat→Nat→Rat}{r c t:Nat}(h:t=r∨T t c=0):∀i k,pst T r c t i k=pst T r c (t+1) i k:=fun i k=>by
 unfold pst;by_cases f:i<t∨i=r
 ·rw[if_pos f,if_pos (by omega)]
 ·rw[if_neg f];by_cases e:i=t
  ·subst e;have j:T i c=0:=by rcases h with h|h;exact absurd (.inr h) f;exact h
   rw[if_pos (.inl (by omega))];unfold qC;rw[if_neg (fun e=>f (.inr e)),j,Rat.zero_mul,Rat.sub_eq_add_neg,Rat.neg_zero,Rat.add_zero]
  ·rw[if_neg (by omega)]
theorem aEq{n w r c B:Nat}{a5:List (List Rat)}{od:Nat→Nat}{T:Nat→Nat→Rat}(s:qX n w B T)(hr:r<n)(hc:c<w)(hor:od r=a5.length)(hB:B≤200000000)(hw:w≤100000)(z:n≤100000){K:Nat}(y:w<K):∀(t i fu:Nat) (rs:List (List Rat)),i+t=n→t<fu→tE n w rs od (pst T r c i)→∃rs',bD K (r:Int) (c:Int) a5 (mp od n) fu rs (i:Int)=some rs'∧tE n w rs' od (qC T r c)
 |0,i,fu,rs,u,F,h=>by
  obtain⟨fu',rfl,_⟩:=aT F;have e:i=n:=by omega
  subst e;refine⟨rs,by simp only[bD,aO,dF (show¬(i:Int)<(i:Int) by omega),bG],h.congr fun j k J _=>if_pos (.inl J)⟩
 |t+1,i,fu,rs,u,F,h=>by
  obtain⟨fu',rfl,_⟩:=aT F;have hin:i<n:=by omega
  have hrow:=h.row i hin;by_cases e:i=r
  ·obtain⟨rs',g1,x⟩:=aEq s hr hc hor hB hw z y t (i+1) fu' rs (by omega) (by omega) (h.congr fun j k _ _=>aKi (.inl e) j k);refine⟨rs',?_,x⟩;simp only[bD,aO,dT (show(i:Int)<(n:Int) by omega),bL,cD (f:=od) hin,oB,hrow,cD (f:=pst T r c i i) hc,qT (show(i:Int)=(r:Int) by omega),qG (i:=i) (by omega)];exact g1
  ·have ei:pst T r c i i=T i:=by funext k;unfold pst;rw[if_neg (by omega)]
   rw[ei]at hrow;by_cases G:T i c=0
   ·obtain⟨rs',g1,x⟩:=aEq s hr hc hor hB hw z y t (i+1) fu' rs (by omega) (by omega) (h.congr fun j k _ _=>aKi (.inr G) j k);refine⟨rs',?_,x⟩;simp only[bD,aO,dT (show(i:Int)<(n:Int) by omega),bL,cD (f:=od) hin,oB,hrow,cD (f:=T i) hc,qF (show(i:Int)≠(r:Int) by omega),bG,kI (s i c hin hc) (by omega),qT (zC.2 G),qG (i:=i) (by omega)];exact g1
   ·have hne:a5.length≠od i:=fun I=>e (h.inj i r hin hr (by rw[←I,hor]))
    have hq:rs.getD a5.length []=mp (y7 T r c) w:=by
     rw[←hor,h.row r hr];exact bW fun k _=>by unfold pst qC y7;rw[if_pos (.inr rfl),if_pos rfl]
    have q:=aHC (h.lt i hin) hne hrow hq (fun k u=>s i k hin u) (fun k u=>aH9 s hr hc u) (s i c hin hc) hB hw K w 0 K (by omega) y;have L:rs.set (od i) (mp (fun j=>if j<0 then T i j-T i c*y7 T r c j else T i j) w)=rs:=by
     have O:mp (fun j=>if j<0 then T i j-T i c*y7 T r c j else T i j) w=rs.getD (od i) []:=by
      rw[hrow];exact bW fun j _=>if_neg (by omega)
     rw[O,List.getD_eq_getElem?_getD,List.getElem?_eq_getElem (h.lt i hin),Option.getD_some,List.set_getElem_self]
    rw[L]at q;simp only[Int.natCast_zero]at q;have U:mp (fun j=>T i j-T i c*y7 T r c j) w=mp (qC T r c i) w:=bW fun j _=>by unfold qC y7;rw[if_neg e]
    rw[U]at q;obtain⟨rs',g1,x⟩:=aEq s hr hc hor hB hw z y t (i+1) fu' _ (by omega) (by omega) ((h.set hin (qC T r c i)).congr fun j k _ _=>aPh j k);refine⟨rs',?_,x⟩;simp only[bD,aO,dT (show(i:Int)<(n:Int) by omega),bL,cD (f:=od) hin,oB,hrow,cD (f:=T i) hc,qF (show(i:Int)≠(r:Int) by omega),bG,kI (s i c hin hc) (by omega),qF (fun I=>G (zC.1 I)),q,jR,qG (i:=i) (by omega)];exact g1
theorem aRw{n w r c B:Nat}{rs:List (List Rat)}{od b:Nat→Nat}{T:Nat→Nat→Rat}{a2:Int}(h:tE n w rs od T)(x:qX n w B T)(hr:r<n)(hc:c<w)(hB:B≤200000000)(hw:w≤100000)(F:n≤100000){K:Nat}(X:w+n<K):∃rs' od',jE K (r:Int) (c:Int) a2 (mp od n) (mp (fun i=>((b i:Nat):Int)) n) rs=some (((b r:Nat):Int),mp od' n,mp (fun i=>((gN b r c i:Nat):Int)) n,rs')∧tE n w rs' od' (qC T r c):=by
 have hrow:=h.row r hr;have hcp:cpL (mp (fun _=>(0:Rat)) w) (rs.getD (od r) [])=mp (T r) w:=by rw[hrow];exact aT9 (by rw[aO,aO])
 have q:=aJ1 hcp (fun k G=>x r k hr G) (x r c hr hc) (by omega) hw K w 0 K (by omega) (by omega);have I:mp (fun j=>if j<0 then T r j/T r c else T r j) w=mp (T r) w:=bW fun j _=>if_neg (by omega)
 rw[I]at q;have J:tE n w (rs++[mp (y7 T r c) w]) (gN od r rs.length) (pst T r c 0):=by
  refine⟨fun i s=>?_,fun i j s y e=>?_,fun i s=>?_⟩
  ·by_cases e:i=r
   ·rw[e,aN];simp
   ·rw[aZ e];have:=h.lt i s;simp;omega
  ·by_cases u:i=r
   ·by_cases t:j=r
    ·rw[u,t]
    ·rw[u,aN,aZ t]at e;have:=h.lt j y;omega
   ·by_cases t:j=r
    ·rw[t,aN,aZ u]at e;have:=h.lt i s;omega
    ·rw[aZ u,aZ t]at e;exact h.inj i j s y e
  ·by_cases e:i=r
   ·rw[e,aN,List.getD_eq_getElem?_getD,List.getElem?_append_right (Nat.le_refl _),Nat.sub_self];show mp (y7 T r c) w=_;exact bW fun k _=>by unfold pst qC y7;rw[if_pos (.inr rfl),if_pos rfl]
   ·have L:=h.lt i s;rw[aZ e,List.getD_eq_getElem?_getD,List.getElem?_append_left L,←List.getD_eq_getElem?_getD,h.row i s];exact bW fun k _=>by unfold pst;rw[if_neg (by omega)]
 obtain⟨rs',g1,O⟩:=aEq (a5:=rs) x hr hc aN hB hw F (K:=K) (by omega) n 0 K _ (by omega) (by omega) J;simp only[Int.natCast_zero]at q g1;have U:mp (fun j=>T r j/T r c) w=mp (y7 T r c) w:=rfl;rw[U]at q;have V:mp (gN (fun i=>((b i:Nat):Int)) r (c:Int)) n=mp (fun i=>((gN b r c i:Nat):Int)) n:=bW fun i _=>by
  by_cases e:i=r
  ·rw[e,aN,aN]
  ·rw[aZ e,aZ e]
 refine⟨rs',gN od r rs.length,?_,O⟩;simp only[jE,cD (f:=od) hr,oB,hrow,aO,aC4 (z:=(0:Rat)) (n:=w) (by omega)];rw[←hrow,hcp];simp only[cD (f:=T r) hc,oB,q,jU,cD (f:=od) hr,vA (f:=od) hr,g1,jT,cD (f:=fun i=>((b i:Nat):Int)) hr,vA (f:=fun i=>((b i:Nat):Int)) hr,V]
def enc(s:Option Nat):Int:=match s with|none=>-1|some r=>(r:Int)
def sel(T:Nat→Nat→Rat)(n c:Nat):Nat→Nat→Option Nat→Option Nat
 |0,_,s=>s
 |t+1,i,s=>bif decide (0<(T i c).num.sign) then(match s with
  |none=>sel T n c t (i+1) (some i)
  |some r=>bif les T n i (T i c) r (T r c) then sel T n c t (i+1) (some i) else sel T n c t (i+1) (some r)) else sel T n c t (i+1) s
theorem aAh{T:Nat→Nat→Rat}{n c:Nat}:∀t i s r,(∀q,s=some q→q<i∧0<(T q c).num.sign)→sel T n c t i s=some r→r<i+t∧0<(T r c).num.sign
 |0,i,s,r,h,e=>by have:=h r e;exact⟨by omega,this.2⟩
 |t+1,i,s,r,h,e=>by
  unfold sel at e;by_cases hp:0<(T i c).num.sign
  ·rw[decide_eq_true hp,bL]at e;have f:∀q,some i=some q→q<i+1∧0<(T q c).num.sign:=fun q hq=>by cases hq;exact⟨by omega,hp⟩
   cases s with
   |none=>have:=aAh t (i+1) (some i) r f e;exact⟨by omega,this.2⟩
   |some p=>
    have hs:∀q,some p=some q→q<i+1∧0<(T q c).num.sign:=fun q hq=>by have:=h q hq;exact⟨by omega,this.2⟩
    simp only at e;cases j:les T n i (T i c) p (T p c)
    ·rw[j,bG]at e;have:=aAh t (i+1) (some p) r hs e;exact⟨by omega,this.2⟩
    ·rw[j,bL]at e;have:=aAh t (i+1) (some i) r f e;exact⟨by omega,this.2⟩
  ·rw[decide_eq_false hp,bG]at e;have:=aAh t (i+1) s r (fun q hq=>by have:=h q hq;exact⟨by omega,this.2⟩) e;exact⟨by omega,this.2⟩
theorem aHT{n c B:Nat}{rs:List (List Rat)}{od:Nat→Nat}{T:Nat→Nat→Rat}{v6:Int×(List Nat)×(List Int)×(List (List Rat))}{x:Int}{bs:List Int}(k:v6.1=(n:Int))(h:tE n (2*n+2) rs od T)(e:qX n (2*n+2) B T)(hc:c<2*n+2)(hB:B≤200000000)(u:n≤1000){K:Nat}(y:2000≤K):∀(t i fu:Nat) (s:Option Nat),i+t=n→t<fu→(∀q,s=some q→q<i)→dL K v6 (x,mp od n,bs,rs) (c:Int) fu (enc s) (i:Int)=some (enc (sel T n c t i s))
 |0,i,fu,s,z,j,hs=>by
  obtain⟨fu',rfl,_⟩:=aT j;simp only[dL,aO,dF (show¬(i:Int)<(n:Int) by omega),bG,sel]
 |t+1,i,fu,s,z,j,hs=>by
  obtain⟨fu',rfl,_⟩:=aT j;have hin:i<n:=by omega
  have hb:=e i c hin hc;have ih:=fun s hs=>aHT (x:=x) (bs:=bs) k h e hc hB u y t (i+1) fu' s (by omega) (by omega) hs
  simp only[dL,aO,dT (show(i:Int)<(n:Int) by omega),bL,cD (f:=od) hin,oB,h.row i hin,cD (f:=T i) hc,kI hb (by omega),sel];by_cases hp:0<(T i c).num.sign
  ·simp only[dT hp,bL];cases s with
   |none=>
    simp only[enc,dT (show(-1:Int)<0 by omega),bL,qG (i:=i) (by omega),oB];exact ih (some i) (fun q hq=>by cases hq;omega)
   |some p=>
    have hpn:p<n:=by have:=hs p rfl;omega
    have F:=aJL (a6:=bs) h e hin hpn hb (e p c hpn hc) (by omega) u y;simp only[enc,dF (show¬(p:Int)<0 by omega),bG,cD (f:=od) hpn,h.row p hpn,cD (f:=T p) hc,oB,k,F];cases les T n i (T i c) p (T p c)
    ·simp only[bG,qG (i:=i) (by omega),oB];exact ih (some p) (fun q hq=>by have:=hs q hq;omega)
    ·simp only[bL,qG (i:=i) (by omega),oB];exact ih (some i) (fun q hq=>by cases hq;omega)
  ·simp only[dF hp,bG,qG (i:=i) (by omega),oB];exact ih s (fun q hq=>by have:=hs q hq;omega)
def swv(T:Nat→Nat→Rat)(b:Nat→Nat)(n:Nat):Nat→Nat→Rat
 |0=>z0
 |i+1=>if b i<n then gN (swv T b n i) (b i) (T i (2*n+1)) else swv T b n i
def szv(T:Nat→Nat→Rat)(b:Nat→Nat)(n:Nat):Nat→Nat→Rat
 |0=>z0
 |i+1=>if b i<n then szv T b n i else if b i<2*n then gN (szv T b n i) (b i-n) (T i (2*n+1)) else szv T b n i
theorem aKL{n:Nat}{rs:List (List Rat)}{od b:Nat→Nat}{T:Nat→Nat→Rat}(h:tE n (2*n+2) rs od T)(x:n≤1000)(K:Nat):∀(t i fu:Nat),i+t=n→t<fu→bM K (n:Int) (mp od n) (mp (fun i=>((b i:Nat):Int)) n) rs fu (mp (swv T b n i) n) (mp (szv T b n i) n) (i:Int)=some (mp (swv T b n n) n,mp (szv T b n n) n)
 |0,i,fu,y,s=>by
  obtain⟨fu',rfl,_⟩:=aT s;have e:i=n:=by omega
  subst e;simp only[bM,aO,dF (show¬(i:Int)<(i:Int) by omega),bG]
 |t+1,i,fu,y,s=>by
  obtain⟨fu',rfl,_⟩:=aT s;have hin:i<n:=by omega
  have ih:=aKL (b:=b) h x K t (i+1) fu' (by omega) (by omega);have c1:aV (2*(n:Int))=some (2*(n:Int)):=tI (by omega);have z:aV (2*(n:Int)+1)=some ((2*n+1:Nat):Int):=by rw[tI (by omega)];congr 1
  simp only[bM,aO,dT (show(i:Int)<(n:Int) by omega),bL,cD (f:=fun i=>((b i:Nat):Int)) hin,cD (f:=od) hin,oB,c1,z,h.row i hin,cD (f:=T i) (n:=2*n+2) (i:=2*n+1) (by omega)];by_cases j:b i<n
  ·have q:swv T b n (i+1)=gN (swv T b n i) (b i) (T i (2*n+1)):=if_pos j;have k:szv T b n (i+1)=szv T b n i:=if_pos j;rw[q,k]at ih;simp only[dT (show((b i:Nat):Int)<(n:Int) by omega),bL,cD (f:=swv T b n i) j,vA (f:=swv T b n i) j,oB,qG (i:=i) (by omega)];exact ih
  ·have q:swv T b n (i+1)=swv T b n i:=if_neg j;by_cases u:b i<2*n
   ·have k:szv T b n (i+1)=gN (szv T b n i) (b i-n) (T i (2*n+1)):=by
     show(if b i<n then _ else _)=_;rw[if_neg j,if_pos u]
    have F:aV (((b i:Nat):Int)-(n:Int))=some ((b i-n:Nat):Int):=by rw[show((b i:Nat):Int)-(n:Int)=((b i-n:Nat):Int) by omega,tI (by omega)]
    rw[q,k]at ih;simp only[dF (show¬((b i:Nat):Int)<(n:Int) by omega),bG,dT (show((b i:Nat):Int)<2*(n:Int) by omega),bL,F,oB,cD (f:=szv T b n i) (n:=n) (i:=b i-n) (by omega),vA (f:=szv T b n i) (n:=n) (i:=b i-n) (by omega),qG (i:=i) (by omega)];exact ih
   ·have k:szv T b n (i+1)=szv T b n i:=by
     show(if b i<n then _ else _)=_;rw[if_neg j,if_neg u]
    rw[q,k]at ih;simp only[dF (show¬((b i:Nat):Int)<(n:Int) by omega),bG,dF (show¬((b i:Nat):Int)<2*(n:Int) by omega),qG (i:=i) (by omega),oB];exact ih
theorem aMh{n:Nat}{rs:List (List Rat)}{od b:Nat→Nat}{T:Nat→Nat→Rat}(h:tE n (2*n+2) rs od T)(f:n≤1000){K:Nat}(j:2000≤K):fN K (n:Int) (mp od n) (mp (fun i=>((b i:Nat):Int)) n) rs=some ⟨mp (szv T b n n) n,mp (swv T b n n) n,0⟩:=by
 have:=aKL (b:=b) h f K n 0 K (by omega) (by omega);simp only[Int.natCast_zero]at this;have e:mp (fun _=>(0:Rat)) n=mp (swv T b n 0) n:=rfl;have k:mp (swv T b n 0) n=mp (szv T b n 0) n:=rfl;simp only[fN,aC4 (z:=(0:Rat)) (n:=n) (by omega),oB,e];rw[show bM K (n:Int) (mp od n) (mp (fun i=>((b i:Nat):Int)) n) rs K (mp (swv T b n 0) n) (mp (swv T b n 0) n) 0=_ from this];rfl
/-- The run from a tableau on. -/
def lem(n most:Nat):Nat→(Nat→Nat→Rat)→(Nat→Nat)→Nat→Nat→Nat→bS×Int
 |0,_,_,_,_,_=>(⟨[],[],0⟩,16)
 |f+1,T,b,r,c,cnt=>
  if cnt=most then(⟨[],[],0⟩,16)
  else if b r=2*n then(⟨mp (szv (qC T r c) (gN b r c) n n) n,mp (swv (qC T r c) (gN b r c) n n) n,((cnt+1:Nat):Int)⟩,0)
  else match sel (qC T r c) n (if b r<n then b r+n else b r-n) n 0 none with
   |none=>(⟨[],[],0⟩,15)
   |some e=>lem n most f (qC T r c) (gN b r c) e (if b r<n then b r+n else b r-n) (cnt+1)
structure LI (n:Nat) (Z T:Nat→Nat→Rat) (b:Nat→Nat) (r c:Nat):Prop where
 ti:TI n (2*n+2) Z T b
 hr:r<n
 hc:c≤2*n
 hp:T r c≠0
 hb:∀j,j<n→b j≤2*n
 fst:c=2*n→b r≠2*n
theorem TI.inj{n w:Nat}{Z T:Nat→Nat→Rat}{b:Nat→Nat}(h:TI n w Z T b){i j:Nat}(f:i<n)(q:j<n)(e:b i=b j):i=j:=by
 by_cases k:i=j
 ·exact k
 ·have a:=h.un i i f f;have c:=h.un i j f q;rw[if_pos rfl,e]at a;rw[if_neg k,a]at c;exact absurd c (by decide)
theorem aOW{n x:Nat}(e:x≤2*n)(hne:x≠2*n):(if x<n then x+n else x-n)<2*n:=by split<;>omega
theorem LI.next{n:Nat}{Z T:Nat→Nat→Rat}{b:Nat→Nat}{r c f:Nat}(h:LI n Z T b r c)(hne:b r≠2*n)(hs:sel (qC T r c) n (if b r<n then b r+n else b r-n) n 0 none=some f):LI n Z (qC T r c) (gN b r c) f (if b r<n then b r+n else b r-n):=by
 have hlt:=aOW (h.hb r h.hr) hne;obtain⟨s1,s2⟩:=aAh n 0 none f (fun q hq=>by cases hq) hs;refine⟨h.ti.pivot h.hr (by have:=h.hc;omega) h.hp,by omega,by omega,fun e=>?_,fun j k=>?_,fun e=>by omega⟩
 ·rw[e]at s2;exact absurd s2 (by decide)
 ·by_cases e:j=r
  ·rw[e,aN];exact h.hc
  ·rw[aZ e];exact h.hb j k
def Sm(n B:Nat)(Z:Nat→Nat→Rat):Prop:=∀T b,TI n (2*n+2) Z T b→qX n (2*n+2) B T
theorem aWD{n most B:Nat}{Z:Nat→Nat→Rat}{v6:Int×(List Nat)×(List Int)×(List (List Rat))}(j:v6.1=(n:Int))(u:Sm n B Z)(hB:B≤200000000)(y:n≤1000)(hm:most≤100000){K:Nat}(J:5000≤K):∀(f cnt fu:Nat) (rs:List (List Rat)) (od:Nat→Nat) (T:Nat→Nat→Rat) (b:Nat→Nat) (r c:Nat),cnt+f=most+1→0<f→f≤fu→tE n (2*n+2) rs od T→LI n Z T b r c→
  dE K (most:Int) v6 fu (mp od n) (mp (fun i=>((b i:Nat):Int)) n) rs (r:Int) (c:Int) (cnt:Int)=some (.ret (lem n most f T b r c cnt))
 |0,cnt,fu,rs,od,T,b,r,c,hc,L,O,G,h=>by omega
 |f+1,cnt,fu,rs,od,T,b,r,c,hc,L,O,G,h=>by
  obtain⟨fu',rfl,U⟩:=aT (show f<fu by omega);unfold lem;by_cases e:cnt=most
  ·rw[if_pos e];simp only[dE,qT (show(cnt:Int)=(most:Int) by omega),bL]
  ·rw[if_neg e];have hcw:=h.hc;have V:=u T b h.ti;have ti':=h.ti.pivot h.hr (show c<2*n+2 by omega) h.hp;have z:=u _ _ ti';obtain⟨rs',od',I,F⟩:=aRw (b:=b) (a2:=v6.1) G V h.hr (show c<2*n+2 by omega) hB (by omega) (by omega) (K:=K) (by omega);have hbr:=h.hb r h.hr;have c1:aV (2*(n:Int))=some (2*(n:Int)):=tI (by omega);rw[j]at I;simp only[dE,qF (show(cnt:Int)≠(most:Int) by omega),bG,j,I,oB,c1];by_cases k:b r=2*n
   ·rw[if_pos k];simp only[qT (show((b r:Nat):Int)=2*(n:Int) by omega),bL,aMh (b:=gN b r c) F y (show 2000≤K by omega),oB,qG (i:=cnt) (by omega)]
   ·rw[if_neg k];have hlt:=aOW hbr k;have X:aV (((b r:Nat):Int)+(n:Int))=some ((b r+n:Nat):Int):=by rw[tI (by omega)];rfl
    have hsel:=aHT (v6:=v6) (x:=((b r:Nat):Int)) (bs:=mp (fun i=>((gN b r c i:Nat):Int)) n) j F z (show(if b r<n then b r+n else b r-n)<2*n+2 by omega) hB y (show 2000≤K by omega) n 0 K none (by omega) (by omega) (fun q hq=>by cases hq);simp only[Int.natCast_zero,show enc none=(-1:Int) from rfl]at hsel;have key:kR K v6 (cnt:Int) (((b r:Nat):Int),mp od' n,mp (fun i=>((gN b r c i:Nat):Int)) n,rs') (dE K (most:Int) v6 fu') (((if b r<n then b r+n else b r-n:Nat)):Int)=some (.ret (match sel (qC T r c) n (if b r<n then b r+n else b r-n) n 0 none with|none=>(⟨[],[],0⟩,15)|some s=>lem n most f (qC T r c) (gN b r c) s (if b r<n then b r+n else b r-n) (cnt+1))):=by
     simp only[kR,hsel,oB,pX];cases hs:sel (qC T r c) n (if b r<n then b r+n else b r-n) n 0 none with
     |none=>rfl
     |some s=>
      simp only[enc,dF (show¬(s:Int)<0 by omega),bG,qG (i:=cnt) (by omega),oB];exact aWD j u hB y hm J f (cnt+1) fu' rs' od' _ _ s _ (by omega) (by omega) (by omega) F (h.next k hs)
    simp only[qF (show((b r:Nat):Int)≠2*(n:Int) by omega),bG,X,oB];by_cases t:b r<n
    ·rw[if_pos t]at key;simp only[dF (show¬(n:Int)≤((b r:Nat):Int) by omega),bG,if_pos t];exact key
    ·rw[if_neg t]at key;have Y:aV (((b r:Nat):Int)-(n:Int))=some ((b r-n:Nat):Int):=by rw[show((b r:Nat):Int)-(n:Int)=((b r-n:Nat):Int) by omega,tI (by omega)]
     simp only[dT (show(n:Int)≤((b r:Nat):Int) by omega),bL,Y,oB,if_neg t];exact key
theorem aKC{l:List Rat}{B:Nat}(f:Bds B l)(hB:B≤1073741824)(j:l.length≤1000)(K:Nat):∀(t i k:Nat),i+t=l.length→t<k→lB K l k (i:Int)=some (.go ())
 |0,i,k,q,e=>by
  obtain⟨h,rfl,_⟩:=aT e;simp only[lB,dF (show¬(i:Int)<(l.length:Int) by omega),bG]
 |t+1,i,k,q,e=>by
  obtain⟨h,rfl,_⟩:=aT e;simp only[lB,dT (show(i:Int)<(l.length:Int) by omega),bL,aNP (l:=l) (i:=i) (by omega),oB,aLV (f _ (aET (l:=l) (i:=i) (by omega))) hB,Bool.not_true,bG,qG (i:=i) (by omega)];exact aKC f hB j K t (i+1) h (by omega) (by omega)
theorem aEj{l:List Rat}{B:Nat}(e:Bds B l)(hB:B≤1073741824)(f:l.length≤1000){K:Nat}(h:l.length<K):l6 K l=some true:=by
 have:=aKC e hB f K l.length 0 K (by omega) h;simp only[Int.natCast_zero]at this;simp only[l6,this,oB,sJ]
theorem aHq{l:List Rat}{B:Nat}(f:Bds B l)(hB:B≤1073741824)(j:l.length≤1000)(K:Nat):∀(t i k:Nat),i+t=l.length→t<k→oL K l k (i:Int)=some (.go ())
 |0,i,k,q,e=>by
  obtain⟨h,rfl,_⟩:=aT e;simp only[oL,dF (show¬(i:Int)<(l.length:Int) by omega),bG]
 |t+1,i,k,q,e=>by
  obtain⟨h,rfl,_⟩:=aT e;simp only[oL,dT (show(i:Int)<(l.length:Int) by omega),bL,aNP (l:=l) (i:=i) (by omega),oB,aLV (f _ (aET (l:=l) (i:=i) (by omega))) hB,Bool.not_true,bG,qG (i:=i) (by omega)];exact aHq f hB j K t (i+1) h (by omega) (by omega)
theorem aFl{l:List Rat}{B:Nat}(e:Bds B l)(hB:B≤1073741824)(f:l.length≤1000){K:Nat}(h:l.length<K):qY K l=some true:=by
 have:=aHq e hB f K l.length 0 K (by omega) h;simp only[Int.natCast_zero]at this;simp only[qY,this,oB,yH]
theorem aHL{M:Nat→Nat→Rat}{q:Nat→Rat}{n B:Nat}(hM:qX n n B M)(hB:B≤1073741824)(h:n≤32){K:Nat}(j:100≤K):∀(t i k:Nat),i+t=n→t<k→kE K (mx M n n) (mp q n) k (i:Int)=some (.go ())
 |0,i,k,s,e=>by
  obtain⟨f,rfl,_⟩:=aT e;simp only[kE,iE,dF (show¬(i:Int)<(n:Int) by omega),bG]
 |t+1,i,k,s,e=>by
  obtain⟨f,rfl,_⟩:=aT e;have hin:i<n:=by omega
  have g:=aEj (l:=mp (M i) n) (yT fun c hc=>hM i c hin hc) hB (by rw[aO];omega) (K:=K) (by rw[aO];omega);simp only[kE,iE,dT (show(i:Int)<(n:Int) by omega),bL,yO (g:=M) (w:=n) hin,oB,aO,nF (rfl:(n:Int)=(n:Int)),bG,g,Bool.not_true,qG (i:=i) (by omega)];exact aHL hM hB h j t (i+1) f (by omega) (by omega)
theorem z9{M:Nat→Nat→Rat}{q:Nat→Rat}{n B:Nat}(hM:qX n n B M)(hq:∀i,i<n→Bd B (q i))(hB:B≤1073741824)(f:n≤32){K:Nat}(h:100≤K):jQ K (mx M n n) (mp q n)=some true:=by
 have g:=aEj (l:=mp q n) (yT hq) hB (by rw[aO];omega) (K:=K) (by rw[aO];omega);have e:=aHL (q:=q) hM hB f h n 0 K (by omega) (by omega);simp only[Int.natCast_zero]at e;simp only[jQ,iE,aO,nF (rfl:(n:Int)=(n:Int)),bG,dF (show¬(32:Int)<(n:Int) by omega),g,oB,Bool.not_true,e,rJ]
theorem aGv{M:Nat→Nat→Rat}{q:Nat→Rat}{n B:Nat}(hM:qX n n B M)(hB:B≤1073741824)(h:n≤32){K:Nat}(j:100≤K):∀(t i k:Nat),i+t=n→t<k→nS K (mx M n n) (mp q n) k (i:Int)=some (.go ())
 |0,i,k,s,e=>by
  obtain⟨f,rfl,_⟩:=aT e;simp only[nS,iE,dF (show¬(i:Int)<(n:Int) by omega),bG]
 |t+1,i,k,s,e=>by
  obtain⟨f,rfl,_⟩:=aT e;have hin:i<n:=by omega
  have g:=aFl (l:=mp (M i) n) (yT fun c hc=>hM i c hin hc) hB (by rw[aO];omega) (K:=K) (by rw[aO];omega);simp only[nS,iE,dT (show(i:Int)<(n:Int) by omega),bL,yO (g:=M) (w:=n) hin,oB,aO,nF (rfl:(n:Int)=(n:Int)),bG,g,Bool.not_true,qG (i:=i) (by omega)];exact aGv hM hB h j t (i+1) f (by omega) (by omega)
theorem aK1{M:Nat→Nat→Rat}{q:Nat→Rat}{n B:Nat}(hM:qX n n B M)(hq:∀i,i<n→Bd B (q i))(hB:B≤1073741824)(f:n≤32){K:Nat}(h:100≤K):wI K (mx M n n) (mp q n)=some true:=by
 have g:=aFl (l:=mp q n) (yT hq) hB (by rw[aO];omega) (K:=K) (by rw[aO];omega);have e:=aGv (q:=q) hM hB f h n 0 K (by omega) (by omega);simp only[Int.natCast_zero]at e;simp only[wI,iE,aO,nF (rfl:(n:Int)=(n:Int)),bG,dF (show¬(32:Int)<(n:Int) by omega),g,oB,Bool.not_true,e,xQ]
def ng(q:Nat→Rat):Nat→Nat→Bool
 |0,_=>false
 |t+1,i=>bif decide ((q i).num.sign<0) then true else ng q t (i+1)
theorem aO0{q:Nat→Rat}{n B:Nat}(hq:∀i,i<n→Bd B (q i))(hB:B≤1073741824)(s:n≤1000)(K:Nat):∀(t i k:Nat),i+t=n→t<k→iD K (mp q n) k (i:Int)=some (bif ng q t i then .ret true else .go ())
 |0,i,k,u,e=>by
  obtain⟨j,rfl,_⟩:=aT e;simp only[iD,aO,dF (show¬(i:Int)<(n:Int) by omega),bG,ng]
 |t+1,i,k,u,e=>by
  obtain⟨j,rfl,_⟩:=aT e;have hin:i<n:=by omega
  simp only[iD,aO,dT (show(i:Int)<(n:Int) by omega),bL,cD (f:=q) hin,oB,kI (hq i hin) hB,ng];by_cases h:(q i).num.sign<0
  ·simp only[dT h,bL]
  ·simp only[dF h,bG,qG (i:=i) (by omega),oB];exact aO0 hq hB s K t (i+1) j (by omega) (by omega)
theorem aLI{q:Nat→Rat}{n B:Nat}(hq:∀i,i<n→Bd B (q i))(hB:B≤1073741824)(s:n≤1000)(K:Nat):∀(t i k:Nat),i+t=n→t<k→lG K (mp q n) k (i:Int)=some (bif ng q t i then .ret true else .go ())
 |0,i,k,u,e=>by
  obtain⟨j,rfl,_⟩:=aT e;simp only[lG,aO,dF (show¬(i:Int)<(n:Int) by omega),bG,ng]
 |t+1,i,k,u,e=>by
  obtain⟨j,rfl,_⟩:=aT e;have hin:i<n:=by omega
  simp only[lG,aO,dT (show(i:Int)<(n:Int) by omega),bL,cD (f:=q) hin,oB,kI (hq i hin) hB,ng];by_cases h:(q i).num.sign<0
  ·simp only[dT h,bL]
  ·simp only[dF h,bG,qG (i:=i) (by omega),oB];exact aLI hq hB s K t (i+1) j (by omega) (by omega)
theorem aIy{q:Nat→Rat}{n B:Nat}(hq:∀i,i<n→Bd B (q i))(hB:B≤1073741824)(e:n≤1000){K:Nat}(f:n<K):iK K (mp q n)=some (ng q n 0)∧uN K (mp q n)=some (ng q n 0):=by
 have h:=aO0 hq hB e K n 0 K (by omega) f;have j:=aLI hq hB e K n 0 K (by omega) f;simp only[Int.natCast_zero]at h j;constructor
 ·simp only[iK,h,oB,o8];cases ng q n 0<;>rfl
 ·simp only[uN,j,oB,wG];cases ng q n 0<;>rfl
def rw1(M:Nat→Nat→Rat)(n i k c:Nat):Rat:=if n≤c∧c<n+k then -(M i (c-n)) else gN z0 i 1 c
theorem aOY{M:Nat→Nat→Rat}{n i k:Nat}(f:i<n):mp (gN (rw1 M n i k) (n+k) (-(M i k))) (2*n+2)=mp (rw1 M n i (k+1)) (2*n+2):=bW fun c _=>by
 by_cases e:c=n+k
 ·subst e;rw[aN];unfold rw1;rw[if_pos ⟨by omega,by omega⟩,Nat.add_sub_cancel_left]
 ·rw[aZ e];unfold rw1;by_cases h:n≤c∧c<n+k
  ·rw[if_pos h,if_pos ⟨h.1,by omega⟩]
  ·rw[if_neg h,if_neg (by omega)]
theorem aRW{M:Nat→Nat→Rat}{q:Nat→Rat}{n i:Nat}(s:i<n):mp (gN (gN (rw1 M n i n) (2*n) (-1)) (2*n+1) (q i)) (2*n+2)=mp (pH M q n i) (2*n+2):=bW fun c hc=>by
 unfold pH;by_cases j:c=2*n+1
 ·subst j;rw[aN,if_neg (by omega),if_neg (by omega),if_neg (by omega)]
 ·rw[aZ j];by_cases k:c=2*n
  ·subst k;rw[aN,if_neg (by omega),if_neg (by omega),if_pos rfl]
  ·rw[aZ k];unfold rw1;by_cases h:c<n
   ·rw[if_neg (by omega),if_pos h];by_cases f:c=i
    ·subst f;rw[aN,if_pos rfl]
    ·rw[aZ f,if_neg (fun e=>f e.symm)];rfl
   ·rw[if_pos ⟨by omega,by omega⟩,if_neg h,if_pos (by omega)]
theorem aMH{M:Nat→Nat→Rat}{q:Nat→Rat}{n i B:Nat}(hM:qX n n B M)(hB:B≤1073741824)(h:i<n)(s:n≤1000)(K:Nat):∀(t k fu:Nat),k+t=n→t<fu→fT K (mx M n n) (mp q n) (i:Int) fu (mp (rw1 M n i k) (2*n+2)) (k:Int)=some (mp (rw1 M n i n) (2*n+2))
 |0,k,fu,u,j=>by
  obtain⟨fu',rfl,_⟩:=aT j;have e:k=n:=by omega
  subst e;simp only[fT,aO,dF (show¬(k:Int)<(k:Int) by omega),bG]
 |t+1,k,fu,u,j=>by
  obtain⟨fu',rfl,_⟩:=aT j;have hkn:k<n:=by omega
  have c1:aV ((n:Int)+(k:Int))=some ((n+k:Nat):Int):=by rw[tI (by omega)];rfl
  simp only[fT,aO,dT (show(k:Int)<(n:Int) by omega),bL,c1,oB,yO (g:=M) (w:=n) h,cD (f:=M i) hkn,yU (hM i k h hkn) hB,cD (f:=rw1 M n i k) (n:=2*n+2) (i:=n+k) (by omega),vA (f:=rw1 M n i k) (n:=2*n+2) (i:=n+k) (by omega),aOY h,qG (i:=k) (by omega)];exact aMH hM hB h s K t (k+1) fu' (by omega) (by omega)
theorem aVg:qof (-1) 1=some (-1):=by
 rw[aIL (by omega) (by omega)];exact congrArg some (by decide+kernel)
theorem aOv{M:Nat→Nat→Rat}{q:Nat→Rat}{n B:Nat}(hM:qX n n B M)(hB:B≤1073741824)(s:n≤1000){K:Nat}(u:n<K):∀(t i fu:Nat),i+t=n→t<fu→eY K (mx M n n) (mp q n) fu (mp (fun j=>((j:Nat):Int)) i) (mp (fun j=>j) i) (mx (pH M q n) i (2*n+2)) (i:Int)=some (mp (fun j=>((j:Nat):Int)) n,mp (fun j=>j) n,mx (pH M q n) n (2*n+2))
 |0,i,fu,x,k=>by
  obtain⟨fu',rfl,_⟩:=aT k;have e:i=n:=by omega
  subst e;simp only[eY,aO,dF (show¬(i:Int)<(i:Int) by omega),bG]
 |t+1,i,fu,x,k=>by
  obtain⟨fu',rfl,_⟩:=aT k;have hin:i<n:=by omega
  have c1:aV (2*(n:Int))=some ((2*n:Nat):Int):=by rw[tI (by omega)];rfl
  have y:aV (((2*n:Nat):Int)+2)=some ((2*n+2:Nat):Int):=by rw[tI (by omega)];rfl
  have F:aV (((2*n:Nat):Int)+1)=some ((2*n+1:Nat):Int):=by rw[tI (by omega)];rfl
  have h:=aMH (q:=q) hM hB hin s K n 0 K (by omega) u;have G:mp (rw1 M n i 0) (2*n+2)=mp (gN z0 i 1) (2*n+2):=bW fun c _=>if_neg (by omega)
  rw[G]at h;simp only[Int.natCast_zero]at h;have a1:tC (mp (fun j=>j) i) [i]=some (mp (fun j=>j) (i+1)):=apM (g:=fun j=>j) (by omega);have a2:tC (mp (fun j=>((j:Nat):Int)) i) [(i:Int)]=some (mp (fun j=>((j:Nat):Int)) (i+1)):=apM (g:=fun j=>((j:Nat):Int)) (by omega);have a3:mx (pH M q n) i (2*n+2)++[mp (pH M q n i) (2*n+2)]=mx (pH M q n) (i+1) (2*n+2):=(aAL (fun i=>mp (pH M q n i) (2*n+2)) i).symm;simp only[eY,aO,dT (show(i:Int)<(n:Int) by omega),bL,c1,y,aC4 (z:=(0:Rat)) (n:=2*n+2) (by omega),aSI,oB,cD (f:=fun _=>(0:Rat)) (n:=2*n+2) (i:=i) (by omega),vA (f:=fun _=>(0:Rat)) (n:=2*n+2) (i:=i) (by omega),show gN (fun _=>(0:Rat)) i 1=gN z0 i 1 from rfl,h,m7,aVg,cD (f:=rw1 M n i n) (n:=2*n+2) (i:=2*n) (by omega),vA (f:=rw1 M n i n) (n:=2*n+2) (i:=2*n) (by omega),F,cD (f:=q) hin,cD (f:=gN (rw1 M n i n) (2*n) (-1)) (n:=2*n+2) (i:=2*n+1) (by omega),vA (f:=gN (rw1 M n i n) (2*n) (-1)) (n:=2*n+2) (i:=2*n+1) (by omega),aRW hin,iE,a1,a2,a3,qG (i:=i) (by omega)];exact aOv hM hB s u t (i+1) fu' (by omega) (by omega)
/-- The first row of the run. -/
def aAD(T:Nat→Nat→Rat)(n:Nat):Nat→Nat→Nat→Nat
 |0,_,r=>r
 |t+1,i,r=>bif les T n i 1 r 1 then aAD T n t (i+1) i else aAD T n t (i+1) r
theorem aBC{T:Nat→Nat→Rat}{n:Nat}:∀t i r,r<n→i+t≤n→aAD T n t i r<n
 |0,i,r,hr,_=>hr
 |t+1,i,r,hr,h=>by
  unfold aAD;cases les T n i 1 r 1
  ·exact aBC t (i+1) r hr (by omega)
  ·exact aBC t (i+1) i (by omega) (by omega)
theorem aO7{n B:Nat}{rs:List (List Rat)}{od:Nat→Nat}{T:Nat→Nat→Rat}{bs:List Int}(h:tE n (2*n+2) rs od T)(e:qX n (2*n+2) B T)(hB:B≤200000000)(f:n≤1000){K:Nat}(j:2000≤K):∀(t i fu r:Nat),i+t=n→t<fu→r<n→gT K ((n:Int),mp od n,bs,rs) 1 fu (r:Int) (i:Int)=some ((aAD T n t i r:Nat):Int)
 |0,i,fu,r,q,k,hr=>by
  obtain⟨fu',rfl,_⟩:=aT k;simp only[gT,dF (show¬(i:Int)<(n:Int) by omega),bG,aAD]
 |t+1,i,fu,r,q,k,hr=>by
  obtain⟨fu',rfl,_⟩:=aT k;have hin:i<n:=by omega
  simp only[gT,dT (show(i:Int)<(n:Int) by omega),bL,aJL (a6:=bs) h e hin hr aQg aQg (show B+8≤500000000 by omega) f j,oB,qG (i:=i) (by omega),aAD];cases les T n i 1 r 1
  ·simp only[bG];exact aO7 h e hB f j t (i+1) fu' r (by omega) (by omega) hr
  ·simp only[bL];exact aO7 h e hB f j t (i+1) fu' i (by omega) (by omega) hin
theorem aCA{q:Nat→Rat}{n:Nat}(h:ng q n 0=true):0<n:=by
 cases n with
 |zero=>exact absurd (show false=true from h) (by decide)
 |succ m=>exact Nat.succ_pos m
def zJ(M:Nat→Nat→Rat)(q:Nat→Rat)(n most:Nat):bS×Int:=
 bif ng q n 0 then lem n most (most+1) (pH M q n) (fun j=>j) (aAD (pH M q n) n n 0 0) (2*n) 0 else(⟨mp z0 n,mp q n,0⟩,0)
theorem aKX{M:Nat→Nat→Rat}{q:Nat→Rat}{n r:Nat}(hr:r<n):LI n (pH M q n) (pH M q n) (fun j=>j) r (2*n):=by
 refine⟨aLt,hr,Nat.le_refl _,?_,fun j e=>by omega,fun _=>by omega⟩;unfold pH;rw[if_neg (by omega),if_neg (by omega),if_pos rfl];decide
theorem aIs{T:Nat→Nat→Rat}{n w:Nat}:tE n w (mx T n w) (fun j=>j) T:=
 ⟨fun i f=>by rw[iE];exact f,fun i j _ _ e=>e,fun i f=>by unfold mx;rw[List.getD_eq_getElem?_getD,wJ f];rfl⟩
theorem aOE{M:Nat→Nat→Rat}{q:Nat→Rat}{n:Nat}:∀i,i≤n→swv (pH M q n) (fun j=>j) n i=(fun j=>if j<i then q j else 0)∧szv (pH M q n) (fun j=>j) n i=z0
 |0,_=>⟨funext fun j=>by show(0:Rat)=_;rw[if_neg (show¬j<0 by omega)],rfl⟩
 |i+1,h=>by
  obtain⟨k,s⟩:=aOE (M:=M) (q:=q) (n:=n) i (by omega);have t:pH M q n i (2*n+1)=q i:=by unfold pH;rw[if_neg (show¬2*n+1<n by omega),if_neg (show¬2*n+1<2*n by omega),if_neg (show¬2*n+1=2*n by omega)]
  unfold swv szv;rw[if_pos (show i<n by omega),if_pos (show i<n by omega),k,s,t];refine⟨funext fun j=>?_,rfl⟩;by_cases e:j=i
  ·subst e;rw[aN,if_pos (by omega)]
  ·rw[aZ e];by_cases f:j<i
   ·rw[if_pos f,if_pos (by omega)]
   ·rw[if_neg f,if_neg (by omega)]
/-- What kills the tableau kills the first one. -/
def KE(n w:Nat)(Z T:Nat→Nat→Rat):Prop:=∀x:Nat→Rat,(∀i,i<n→sm (fun k=>T i k*x k) w=0)→∀i,i<n→sm (fun k=>Z i k*x k) w=0
theorem KE.pivot{n w r c:Nat}{Z T:Nat→Nat→Rat}(h:KE n w Z T)(hr:r<n)(hp:T r c≠0):KE n w Z (qC T r c):=fun x j=>h x fun i s=>by
 have q:sm (fun k=>T r k*x k) w=0:=by
  have f:=j r hr;have e:sm (fun k=>qC T r c r k*x k) w=(1/T r c)*sm (fun k=>T r k*x k) w:=by
   rw[←mY];exact aK fun k _=>by unfold qC;rw[if_pos rfl];grind
  rw[e]at f;grind
 by_cases e:i=r
 ·rw[e];exact q
 ·have f:=j i s;have t:sm (fun k=>qC T r c i k*x k) w=sm (fun k=>T i k*x k) w-(T i c/T r c)*sm (fun k=>T r k*x k) w:=by
   rw[←w7];exact aK fun k _=>by unfold qC;rw[if_neg e];grind
  rw[t,q]at f;grind
def bx(T:Nat→Nat→Rat)(b:Nat→Nat)(n k:Nat):Rat:=if k=2*n+1 then -1 else sm (fun i=>if b i=k then T i (2*n+1) else 0) n
theorem aWk{n w:Nat}{Z T:Nat→Nat→Rat}{b:Nat→Nat}(h:TI n w Z T b)(hb:∀j,j<n→b j≤2*n){j:Nat}(f:j<n):bx T b n (b j)=T j (2*n+1):=by
 have:=hb j f;unfold bx;rw[if_neg (by omega),kP f fun i k hne=>if_neg fun e=>hne (h.inj k f e),if_pos rfl]
theorem aM5{n:Nat}{T:Nat→Nat→Rat}{b:Nat→Nat}{k:Nat}(e:k≠2*n+1)(h:∀i,i<n→b i≠k):bx T b n k=0:=by
 unfold bx;rw[if_neg e];exact dM fun i f=>if_neg (h i f)
theorem aRN{n:Nat}{Z T:Nat→Nat→Rat}{b:Nat→Nat}(h:TI n (2*n+2) Z T b)(hb:∀j,j<n→b j≤2*n){i:Nat}(f:i<n):sm (fun k=>T i k*bx T b n k) (2*n+2)=0:=by
 show sm _ (2*n+1)+T i (2*n+1)*bx T b n (2*n+1)=0;have s:bx T b n (2*n+1)=-1:=if_pos rfl;have t:sm (fun k=>T i k*bx T b n k) (2*n+1)=sm (fun k=>sm (fun j=>if b j=k then T i k*T j (2*n+1) else 0) n) (2*n+1):=aK fun k x=>by
  unfold bx;rw[if_neg (by omega),←mY];refine aK fun j _=>?_
  by_cases e:b j=k
  ·rw[if_pos e,if_pos e]
  ·rw[if_neg e,if_neg e,Rat.mul_zero]
 have u:sm (fun j=>sm (fun k=>if b j=k then T i k*T j (2*n+1) else 0) (2*n+1)) n=T i (2*n+1):=by
  have:sm (fun j=>sm (fun k=>if b j=k then T i k*T j (2*n+1) else 0) (2*n+1)) n=sm (fun j=>T i (b j)*T j (2*n+1)) n:=aK fun j q=>by
   have:=hb j q;rw[kP (p:=b j) (by omega) fun k _ hne=>if_neg fun e=>hne e.symm,if_pos rfl]
  rw[this,kP f fun j q hne=>by rw[h.un i j f q,if_neg fun e=>hne e.symm,Rat.zero_mul],h.un i i f f,if_pos rfl,Rat.one_mul]
 rw[t,wE,u,s];grind
theorem uP(f:Nat→Rat)(a:Nat):∀b,sm f (a+b)=sm f a+sm (fun j=>f (a+j)) b
 |0=>by show sm f a=sm f a+0;rw[Rat.add_zero]
 |b+1=>by
  show sm f (a+b)+f (a+b)=sm f a+(sm (fun j=>f (a+j)) b+f (a+b));rw[uP f a b,Rat.add_assoc]
theorem aUj{M:Nat→Nat→Rat}{q x:Nat→Rat}{n i:Nat}(f:i<n)(h:sm (fun k=>pH M q n i k*x k) (2*n+2)=0)(s:x (2*n+1)=-1):x i=sm (fun j=>M i j*x (n+j)) n+x (2*n)+q i:=by
 have e:2*n+2=(n+n)+2:=by omega
 rw[e,uP,uP]at h;have t:sm (fun k=>pH M q n i k*x k) n=x i:=by
  have:pH M q n i i=1:=by unfold pH;rw[if_pos f,if_pos rfl]
  rw[kP f fun k u hne=>by unfold pH;rw[if_pos u,if_neg fun e=>hne e.symm,Rat.zero_mul],this,Rat.one_mul]
 have y:sm (fun j=>pH M q n i (n+j)*x (n+j)) n=-(sm (fun j=>M i j*x (n+j)) n):=by
  rw[←uB];refine aK fun j F=>?_
  unfold pH;rw[if_neg (by omega),if_pos (by omega),show n+j-n=j by omega,Rat.neg_mul]
 have z:sm (fun j=>pH M q n i (n+n+j)*x (n+n+j)) 2=-(x (2*n))-q i:=by
  show 0+pH M q n i (n+n+0)*x (n+n+0)+pH M q n i (n+n+1)*x (n+n+1)=_;rw[show n+n+0=2*n by omega,show n+n+1=2*n+1 by omega,s];unfold pH;rw[if_neg (by omega),if_neg (by omega),if_pos rfl,if_neg (by omega),if_neg (by omega),if_neg (by omega)];grind
 rw[t,y,z]at h;grind
def nn(f:Nat→Rat):Nat→Nat→Prop
 |0,_=>True
 |t+1,j=>0<f j∨(f j=0∧nn f t (j+1))
theorem nn.congr{f g:Nat→Rat}:∀{t j:Nat},(∀k,f k=g k)→nn f t j→nn g t j
 |0,_,_,_=>trivial
 |t+1,j,e,h=>by
  unfold nn at h ⊢;rw[←e j];exact h.imp id fun h=>⟨h.1,nn.congr e h.2⟩
theorem nn.add{f g:Nat→Rat}:∀{t j:Nat},nn f t j→nn g t j→nn (fun k=>f k+g k) t j
 |0,_,_,_=>trivial
 |t+1,j,e,h=>by
  unfold nn at e h ⊢;rcases e with e|⟨e,q⟩<;>rcases h with h|⟨h,s⟩
  ·left;grind
  ·left;grind
  ·left;grind
  ·right;exact⟨by grind,nn.add q s⟩
theorem nn.mul{f:Nat→Rat}{a:Rat}(q:0≤a):∀{t j:Nat},nn f t j→nn (fun k=>a*f k) t j
 |0,_,_=>trivial
 |t+1,j,h=>by
  unfold nn at h ⊢;by_cases e:a=0
  ·right;refine⟨by rw[e,Rat.zero_mul],?_⟩;have:∀t j,nn (fun k=>a*f k) t j:=fun t=>by
    induction t with
    |zero=>intro j;trivial
    |succ t ih=>intro j;exact Or.inr ⟨by show a*f j=0;rw[e,Rat.zero_mul],ih (j+1)⟩
   exact this t (j+1)
  ·rcases h with h|⟨h,k⟩
   ·left;exact Rat.mul_pos (by grind) h
   ·right;exact⟨by rw[h,Rat.mul_zero],nn.mul q k⟩
theorem nn.head{f:Nat→Rat}{t j:Nat}(h:nn f (t+1) j):0≤f j:=by
 unfold nn at h;rcases h with h|h
 ·exact Rat.le_of_lt h
 ·rw[h.1];exact Rat.le_refl
theorem aKk{T:Nat→Nat→Rat}{n i k:Nat}{c d:Rat}:∀t j,(lx T n i c k d t j=false→nn (fun j=>T i (l7 n j)/c-T k (l7 n j)/d) t j)∧(lx T n i c k d t j=true→nn (fun j=>T k (l7 n j)/d-T i (l7 n j)/c) t j)
 |0,j=>⟨fun _=>trivial,fun h=>absurd h (by unfold lx;decide)⟩
 |t+1,j=>by
  obtain⟨i1,i2⟩:=aKk (T:=T) (n:=n) (i:=i) (k:=k) (c:=c) (d:=d) t (j+1);unfold lx nn;by_cases e:T i (l7 n j)/c=T k (l7 n j)/d
  ·rw[decide_eq_true e,bL];exact⟨fun h=>Or.inr ⟨by rw[e];grind,i1 h⟩,fun h=>Or.inr ⟨by rw[e];grind,i2 h⟩⟩
  ·rw[decide_eq_false e,bG];refine⟨fun h=>Or.inl ?_,fun h=>Or.inl ?_⟩
   ·have:=of_decide_eq_false h;grind
   ·have:=of_decide_eq_true h;grind
def aEQ(T:Nat→Nat→Rat)(n c k r:Nat):Prop:=nn (fun j=>T k (l7 n j)/T k c-T r (l7 n j)/T r c) (n+1) 0
theorem aCE{T:Nat→Nat→Rat}{n c:Nat}:∀t i s r,(∀q,s=some q→∀k,k<i→0<(T k c).num.sign→aEQ T n c k q)→(s=none→∀k,k<i→¬0<(T k c).num.sign)→sel T n c t i s=some r→∀k,k<i+t→0<(T k c).num.sign→aEQ T n c k r
 |0,i,s,r,x,F,e,k,u,hp=>x r e k (by omega) hp
 |t+1,i,s,r,x,F,e,k,u,hp=>by
  unfold sel at e;have refl:aEQ T n c i i:=by
   have:∀t j,nn (fun j=>T i (l7 n j)/T i c-T i (l7 n j)/T i c) t j:=fun t=>by
    induction t with
    |zero=>intro j;trivial
    |succ t ih=>intro j;exact Or.inr ⟨by grind,ih (j+1)⟩
   exact this _ _
  by_cases y:0<(T i c).num.sign
  ·rw[decide_eq_true y,bL]at e;cases s with
   |none=>
    refine aCE t (i+1) (some i) r (fun q hq k u hp=>?_) (fun h=>by cases h) e k (by omega) hp;cases hq;by_cases f:k=i
    ·rw[f];exact refl
    ·exact absurd hp (F rfl k (by omega))
   |some p=>
    simp only at e;cases z:les T n i (T i c) p (T p c)
    ·rw[z,bG]at e;refine aCE t (i+1) (some p) r (fun q hq k u hp=>?_) (fun h=>by cases h) e k (by omega) hp;cases hq;by_cases f:k=i
     ·rw[f];exact(aKk _ _).1 z
     ·exact x p rfl k (by omega) hp
    ·rw[z,bL]at e;refine aCE t (i+1) (some i) r (fun q hq k u hp=>?_) (fun h=>by cases h) e k (by omega) hp;cases hq;by_cases f:k=i
     ·rw[f];exact refl
     ·exact((x p rfl k (by omega) hp).add ((aKk _ _).2 z)).congr fun j=>by grind
  ·rw[decide_eq_false y,bG]at e;refine aCE t (i+1) s r (fun q hq k u hp=>?_) (fun h k u=>?_) e k (by omega) hp
   ·by_cases f:k=i
    ·rw[f]at hp;exact absurd hp y
    ·exact x q hq k (by omega) hp
   ·by_cases f:k=i
    ·rw[f];exact y
    ·exact F h k (by omega)
theorem aQf{a:Rat}:0<a.num↔0<a:=by
 have f:=Rat.num_nonneg (q:=a);have j:=Rat.num_eq_zero (q:=a);constructor
 ·intro h;have k:0≤a:=f.1 (by omega);have s:a≠0:=fun e=>by have:=j.2 e;omega
  grind
 ·intro h;have k:0≤a.num:=f.2 (by grind);have s:a.num≠0:=fun e=>by have:=j.1 e;grind
  omega
theorem aDX{x:Rat}:0<x.num.sign↔0<x:=by rw[Int.sign_pos_iff];exact aQf
def aH5(n:Nat)(T:Nat→Nat→Rat):Prop:=∀i,i<n→nn (fun j=>T i (l7 n j)) (n+1) 0
theorem aH5.last{n i:Nat}{T:Nat→Nat→Rat}(h:aH5 n T)(e:i<n):0≤T i (2*n+1):=(h i e).head
theorem aH5.pivot{n r c:Nat}{T:Nat→Nat→Rat}(h:aH5 n T)(hr:r<n)(hp:0<T r c)(hm:∀k,k<n→0<T k c→aEQ T n c k r):aH5 n (qC T r c):=fun i f=>by
 have hinv:(0:Rat)≤1/T r c:=by rw[Rat.div_def,Rat.one_mul];exact Rat.le_of_lt (Rat.inv_pos.2 hp)
 by_cases e:i=r
 ·exact((h r hr).mul hinv).congr fun j=>by unfold qC;rw[if_pos e];grind
 ·by_cases q:0<T i c
  ·exact((hm i f q).mul (Rat.le_of_lt q)).congr fun j=>by unfold qC;rw[if_neg e];grind
  ·have s:0≤(-(T i c))*(1/T r c):=Rat.mul_nonneg (by grind) hinv;exact((h i f).add ((h r hr).mul s)).congr fun j=>by unfold qC;rw[if_neg e];grind
theorem aEB{T:Nat→Nat→Rat}{n:Nat}:∀t i r,(∀k,k<i→nn (fun j=>T k (l7 n j)-T r (l7 n j)) (n+1) 0)→∀k,k<i+t→nn (fun j=>T k (l7 n j)-T (aAD T n t i r) (l7 n j)) (n+1) 0
 |0,i,r,h,k,f=>h k (by omega)
 |t+1,i,r,h,k,f=>by
  unfold aAD;cases q:les T n i 1 r 1
  ·rw[bG];refine aEB t (i+1) r (fun k f=>?_) k (by omega);by_cases e:k=i
   ·rw[e];exact((aKk _ _).1 q).congr fun j=>by grind
   ·exact h k (by omega)
  ·rw[bL];have s:=(aKk _ _).2 q;refine aEB t (i+1) i (fun k f=>?_) k (by omega);by_cases e:k=i
   ·rw[e];have:∀t j,nn (fun j=>T i (l7 n j)-T i (l7 n j)) t j:=fun t=>by
     induction t with
     |zero=>intro j;trivial
     |succ t ih=>intro j;exact Or.inr ⟨by grind,ih (j+1)⟩
    exact this _ _
   ·exact((h k (by omega)).add s).congr fun j=>by grind
def wV(n x:Nat):Nat:=if x<n then x+n else x-n
theorem aIZ{n x:Nat}(h:x<2*n):wV n x<2*n:=by unfold wV;split<;>omega
theorem aCH{n x:Nat}(h:x<2*n):wV n (wV n x)=x:=by
 unfold wV;by_cases e:x<n
 ·rw[if_pos e,if_neg (by omega)];omega
 ·rw[if_neg e,if_pos (by omega)];omega
theorem aP5{n x:Nat}(e:0<n):wV n x≠x∨2*n≤x:=by unfold wV;split<;>omega
structure CB (n:Nat) (b:Nat→Nat) (c:Nat):Prop where
 inj:∀i j,i<n→j<n→b i=b j→i=j
 nc:∀i,i<n→b i≠c
 np:c<2*n→∀i,i<n→b i≠wV n c
 pr:∀i j,i<n→j<n→b i<2*n→b j≠wV n (b i)
theorem CB.pr'{n r c:Nat}{b:Nat→Nat}(h:CB n b c)(hr:r<n)(hc:c≤2*n):∀i j,i<n→j<n→gN b r c i<2*n→gN b r c j≠wV n (gN b r c i):=fun i j q s hlt=>by
 by_cases t:i=r
 ·subst t;rw[aN]at hlt ⊢;by_cases f:j=i
  ·subst f;rw[aN];intro e;rcases aP5 (n:=n) (x:=c) (by omega) with k|k
   ·exact k e.symm
   ·omega
  ·rw[aZ f];exact h.np hlt j s
 ·rw[aZ t]at hlt ⊢;by_cases f:j=r
  ·subst f;rw[aN];intro e;have k:=aIZ hlt;have u:b i=wV n c:=by rw[e,aCH hlt]
   exact h.np (by omega) i q u
  ·rw[aZ f];exact h.pr i j q s hlt
theorem CB.inj'{n r c:Nat}{b:Nat→Nat}(h:CB n b c):∀i j,i<n→j<n→gN b r c i=gN b r c j→i=j:=fun i j q s e=>by
 by_cases k:i=r
 ·by_cases f:j=r
  ·omega
  ·rw[k,aN,aZ f]at e;exact absurd e.symm (h.nc j s)
 ·by_cases f:j=r
  ·rw[f,aN,aZ k]at e;exact absurd e (h.nc i q)
  ·rw[aZ k,aZ f]at e;exact h.inj i j q s e
theorem CB.next{n r c:Nat}{b:Nat→Nat}(h:CB n b c)(hr:r<n)(hc:c≤2*n)(j:b r<2*n):CB n (gN b r c) (wV n (b r)):=by
 refine⟨h.inj',fun i k=>?_,fun _ i k=>?_,h.pr' hr hc⟩
 ·by_cases e:i=r
  ·rw[e,aN];intro f;have q:=aIZ j;exact h.np (by omega) r hr (by rw[f,aCH j])
  ·rw[aZ e];exact h.pr r i hr k j
 ·rw[aCH j];by_cases e:i=r
  ·rw[e,aN];exact fun f=>h.nc r hr f.symm
  ·rw[aZ e];exact fun f=>e (h.inj i r k hr f)
structure Sol (M:Nat→Nat→Rat) (q:Nat→Rat) (n:Nat) (z w:Nat→Rat):Prop where
 z0:∀j,j<n→0≤z j
 w0:∀j,j<n→0≤w j
 eq:∀i,i<n→w i=sm (fun j=>M i j*z j) n+q i
 zw:∀j,j<n→z j=0∨w j=0
theorem aTy{n:Nat}{T:Nat→Nat→Rat}{b:Nat→Nat}(s:∀i j,i<n→j<n→b i=b j→i=j):∀m,m≤n→(∀j,j<n→swv T b n m j=sm (fun i=>if b i=j then T i (2*n+1) else 0) m)∧(∀j,j<n→szv T b n m j=sm (fun i=>if b i=n+j then T i (2*n+1) else 0) m)
 |0,_=>⟨fun _ _=>rfl,fun _ _=>rfl⟩
 |m+1,hm=>by
  obtain⟨t,u⟩:=aTy (T:=T) s m (by omega);have zero:sm (fun i=>if b i=b m then T i (2*n+1) else 0) m=0:=dM fun i h=>if_neg fun e=>by have:=s i m (by omega) (by omega) e;omega
  refine⟨fun j k=>?_,fun j k=>?_⟩
  ·show swv T b n (m+1) j=sm _ m+(if b m=j then T m (2*n+1) else 0);rw[←t j k];have q:swv T b n (m+1)=if b m<n then gN (swv T b n m) (b m) (T m (2*n+1)) else swv T b n m:=rfl;rw[q];by_cases e:b m<n
   ·rw[if_pos e];by_cases f:b m=j
    ·rw[if_pos f,←f,aN,t (b m) e,zero];grind
    ·rw[if_neg f,aZ (fun h=>f h.symm),Rat.add_zero]
   ·rw[if_neg e,if_neg (by omega),Rat.add_zero]
  ·show szv T b n (m+1) j=sm _ m+(if b m=n+j then T m (2*n+1) else 0);rw[←u j k];have q:szv T b n (m+1)=if b m<n then szv T b n m else if b m<2*n then gN (szv T b n m) (b m-n) (T m (2*n+1)) else szv T b n m:=rfl;rw[q];by_cases e:b m<n
   ·rw[if_pos e,if_neg (by omega),Rat.add_zero]
   ·rw[if_neg e];by_cases x:b m<2*n
    ·rw[if_pos x];by_cases f:b m=n+j
     ·rw[if_pos f,show b m-n=j by omega,aN,u j k,←f,zero];grind
     ·rw[if_neg f,aZ (by omega),Rat.add_zero]
    ·rw[if_neg x,if_neg (by omega),Rat.add_zero]
theorem aRf{M T:Nat→Nat→Rat}{q:Nat→Rat}{n:Nat}{b:Nat→Nat}(ti:TI n (2*n+2) (pH M q n) T b)(ke:KE n (2*n+2) (pH M q n) T)(lx:aH5 n T)(hb:∀i,i<n→b i<2*n)(pr:∀i j,i<n→j<n→b i<2*n→b j≠wV n (b i)):Sol M q n (szv T b n n) (swv T b n n):=by
 have inj:∀i j,i<n→j<n→b i=b j→i=j:=fun i j f h e=>ti.inj f h e
 obtain⟨x,y⟩:=aTy (T:=T) inj n (Nat.le_refl n);have ew:∀j,j<n→swv T b n n j=bx T b n j:=fun j h=>by rw[x j h];unfold bx;rw[if_neg (by omega)]
 have ez:∀j,j<n→szv T b n n j=bx T b n (n+j):=fun j h=>by rw[y j h];unfold bx;rw[if_neg (by omega)]
 have s:∀i,i<n→b i≤2*n:=fun i f=>by have:=hb i f;omega
 have nnb:∀k,k<2*n→0≤bx T b n k:=fun k F=>by
  by_cases e:∃i,i<n∧b i=k
  ·obtain⟨i,f,e⟩:=e;rw[←e,aWk ti s f];exact lx.last f
  ·rw[aM5 (by omega) fun i f t=>e ⟨i,f,t⟩];exact Rat.le_refl
 refine⟨fun j h=>by rw[ez j h];exact nnb _ (by omega),fun j h=>by rw[ew j h];exact nnb _ (by omega),fun i f=>?_,fun j h=>?_⟩
 ·have:=aUj f (ke (bx T b n) (fun i f=>aRN ti s f) i f) (if_pos rfl);rw[aM5 (k:=2*n) (by omega) (fun i f=>by have:=hb i f;omega),Rat.add_zero]at this;rw[ew i f,this];congr 1;exact aK fun j h=>by rw[ez j h]
 ·rw[ez j h,ew j h];by_cases e:∃i,i<n∧b i=n+j
  ·obtain⟨i,f,e⟩:=e;right;refine aM5 (by omega) fun z u t=>?_
   refine pr i z f u (by omega) ?_;rw[t,e];unfold wV;rw[if_neg (by omega)];omega
  ·left;exact aM5 (by omega) fun i f t=>e ⟨i,f,t⟩
theorem aMv{M:Nat→Nat→Rat}{q:Nat→Rat}{n most:Nat}:∀f T b r c cnt,LI n (pH M q n) T b r c→KE n (2*n+2) (pH M q n) T→aH5 n (qC T r c)→CB n b c→(lem n most f T b r c cnt).2=0→∃z w,(lem n most f T b r c cnt).1.z=mp z n∧(lem n most f T b r c cnt).1.w=mp w n∧Sol M q n z w
 |0,T,b,r,c,cnt,li,ke,lx,cb,j=>absurd j (by unfold lem;decide)
 |f+1,T,b,r,c,cnt,li,ke,lx,cb,j=>by
  have hc:=li.hc;have hr:=li.hr;have ti':=li.ti.pivot hr (show c<2*n+2 by omega) li.hp;have ke':=ke.pivot hr li.hp;unfold lem at j ⊢;by_cases e:cnt=most
  ·rw[if_pos e]at j;exact absurd j (by decide)
  ·rw[if_neg e]at j ⊢;by_cases s:b r=2*n
   ·rw[if_pos s];refine⟨_,_,rfl,rfl,aRf ti' ke' lx (fun i x=>?_) (cb.pr' hr hc)⟩;by_cases t:i=r
    ·rw[t,aN];have:=cb.nc r hr;omega
    ·rw[aZ t];have F:=li.hb i x;have G:b i≠2*n:=fun h=>t (cb.inj i r x hr (by rw[h,s]))
     omega
   ·rw[if_neg s]at j ⊢;have hlt:b r<2*n:=by have:=li.hb r hr;omega
    cases hs:sel (qC T r c) n (if b r<n then b r+n else b r-n) n 0 none with
    |none=>rw[hs]at j;exact absurd j (show¬(15:Int)=0 by decide)
    |some u=>
     rw[hs]at j;obtain⟨s1,s2⟩:=aAh n 0 none u (fun q hq=>by cases hq) hs;have hm:=aCE n 0 none u (fun q hq=>by cases hq) (fun _ k y=>by omega) hs;exact aMv f (qC T r c) (gN b r c) u _ (cnt+1) (li.next s hs) ke' (lx.pivot (by omega) (aDX.1 s2) fun k y hp=>hm k (by omega) (aDX.2 hp)) (cb.next hr hc hlt) j
theorem aDL{M:Nat→Nat→Rat}{q:Nat→Rat}{n i:Nat}:pH M q n i (2*n)=-1:=by
 unfold pH;rw[if_neg (by omega),if_neg (by omega),if_pos rfl]
theorem aCd{M:Nat→Nat→Rat}{q:Nat→Rat}{n i:Nat}:pH M q n i (2*n+1)=q i:=by
 unfold pH;rw[if_neg (by omega),if_neg (by omega),if_neg (by omega)]
theorem aP4{q:Nat→Rat}:∀t i,ng q t i=true→∃k,i≤k∧k<i+t∧q k<0
 |0,i,h=>absurd h (by unfold ng;decide)
 |t+1,i,h=>by
  unfold ng at h;by_cases e:(q i).num.sign<0
  ·refine⟨i,by omega,by omega,?_⟩;rw[Int.sign_neg_iff,←Int.not_le,Rat.num_nonneg,Rat.not_le]at e;exact e
  ·rw[decide_eq_false e,bG]at h;obtain⟨k,j,s,f⟩:=aP4 t (i+1) h;exact⟨k,by omega,by omega,f⟩
theorem aH6{q:Nat→Rat}:∀t i,ng q t i=false→∀k,i≤k→k<i+t→0≤q k
 |0,i,h,k,f,j=>by omega
 |t+1,i,h,k,f,j=>by
  unfold ng at h;by_cases e:(q i).num.sign<0
  ·rw[decide_eq_true e,bL]at h;cases h
  ·rw[decide_eq_false e,bG]at h;by_cases s:k=i
   ·rw[Int.sign_neg_iff,←Int.not_le,Rat.num_nonneg]at e;rw[s];exact Decidable.not_not.1 e
   ·exact aH6 t (i+1) h k (by omega) (by omega)
theorem aO8{M:Nat→Nat→Rat}{q:Nat→Rat}{n:Nat}(hneg:ng q n 0=true):aH5 n (qC (pH M q n) (aAD (pH M q n) n n 0 0) (2*n)):=fun i t=>by
 have hm:=aEB (n:=n) (T:=pH M q n) n 0 0 (fun k u=>by omega);generalize hr:aAD (pH M q n) n n 0 0=r at *;have hrn:r<n:=by rw[←hr];exact aBC n 0 0 (aCA hneg) (by omega)
 by_cases e:i=r
 ·unfold nn;left;obtain⟨k,_,h,x⟩:=aP4 n 0 hneg;have s:=(hm k h).head;have f:l7 n 0=2*n+1:=rfl;simp only[f,aCd]at s;show 0<qC (pH M q n) r (2*n) i (l7 n 0);unfold qC;rw[if_pos e,f,aCd,aDL];grind
 ·refine(hm i (by omega)).congr fun j=>?_
  unfold qC;rw[if_neg e,aDL,aDL];grind
theorem aOL{n:Nat}:CB n (fun j=>j) (2*n):=
 ⟨fun i j _ _ e=>e,fun i f=>by show i≠2*n;omega,fun h=>absurd h (Nat.lt_irrefl _),fun i j f k _=>by show j≠wV n i;unfold wV;rw[if_pos f];omega⟩
theorem aOI{M:Nat→Nat→Rat}{q:Nat→Rat}{n most:Nat}(e:(zJ M q n most).2=0):∃z w,(zJ M q n most).1.z=mp z n∧(zJ M q n most).1.w=mp w n∧Sol M q n z w:=by
 unfold zJ at e ⊢;cases hneg:ng q n 0
 ·rw[hneg,bG]at e;rw[bG];refine⟨_,_,rfl,rfl,fun _ _=>Rat.le_refl,fun j h=>aH6 n 0 hneg j (by omega) (by omega),fun i k=>?_,fun _ _=>Or.inl rfl⟩;rw[dM fun j _=>show M i j*z0 j=0 from Rat.mul_zero _,Rat.zero_add]
 ·rw[hneg,bL]at e;rw[bL];exact aMv _ _ _ _ _ _ (aKX (aBC n 0 0 (aCA hneg) (by omega))) (fun x f=>f) (aO8 hneg) aOL e
def psl(f:Nat→Rat):Nat→Nat→Prop
 |0,_=>False
 |t+1,j=>0<f j∨(f j=0∧psl f t (j+1))
theorem psl.add{f g:Nat→Rat}:∀{t j:Nat},psl f t j→nn g t j→psl (fun k=>f k+g k) t j
 |0,_,h,_=>h
 |t+1,j,e,q=>by
  unfold psl at e ⊢;unfold nn at q;rcases e with e|⟨e,s⟩<;>rcases q with q|⟨q,u⟩
  ·left;grind
  ·left;grind
  ·left;grind
  ·right;exact⟨by grind,psl.add s u⟩
theorem psl.mul{f:Nat→Rat}{a:Rat}(e:0<a):∀{t j:Nat},psl f t j→psl (fun k=>a*f k) t j
 |0,_,h=>h
 |t+1,j,h=>by
  unfold psl at h ⊢;rcases h with h|⟨h,k⟩
  ·left;exact Rat.mul_pos e h
  ·right;exact⟨by rw[h,Rat.mul_zero],psl.mul e k⟩
theorem psl.zero{f:Nat→Rat}:∀{t j:Nat},psl f t j→∃k,j≤k∧k<j+t∧f k≠0
 |0,_,h=>h.elim
 |t+1,j,h=>by
  unfold psl at h;rcases h with h|⟨h,k⟩
  ·exact⟨j,by omega,by omega,by grind⟩
  ·obtain⟨k,q,s,e⟩:=k.zero;exact⟨k,by omega,by omega,e⟩
theorem nn.strict{f:Nat→Rat}:∀{t j:Nat},nn f t j→(∃k,j≤k∧k<j+t∧f k≠0)→psl f t j
 |0,_,_,⟨k,s,u,_⟩=>by omega
 |t+1,j,h,⟨k,s,u,q⟩=>by
  unfold nn at h;unfold psl;rcases h with h|⟨h,x⟩
  ·exact Or.inl h
  ·refine Or.inr ⟨h,x.strict ⟨k,?_,by omega,q⟩⟩;by_cases e:k=j
   ·subst e;exact absurd h q
   ·omega
def mem(n:Nat)(b:Nat→Nat)(v:Nat):Prop:=∃i,i<n∧b i=v
structure SI (n:Nat) (Z T:Nat→Nat→Rat) (b:Nat→Nat) (c:Nat):Prop where
 ti:TI n (2*n+2) Z T b
 ke:KE n (2*n+2) Z T
 sp:∃F:Nat→Nat→Rat,∀i k,i<n→k<2*n+2→Z i k=sm (fun j=>F i j*T j k) n
 id:∀i j,i<n→j<n→Z i j=if i=j then 1 else 0
 lx:aH5 n T
 cb:CB n b c
 hb:∀i,i<n→b i≤2*n
 hc:c<2*n
theorem SI.inj{n:Nat}{Z T:Nat→Nat→Rat}{b:Nat→Nat}{c:Nat}(h:SI n Z T b c):∀i j,i<n→j<n→b i=b j→i=j:=h.cb.inj
theorem SI.pos{n:Nat}{Z T:Nat→Nat→Rat}{b:Nat→Nat}{c:Nat}(h:SI n Z T b c){i:Nat}(e:i<n):psl (fun j=>T i (l7 n j)) (n+1) 0:=by
 refine(h.lx i e).strict ?_;refine Classical.byContradiction fun hno=>?_
 have zero:∀k,k<n→T i k=0:=fun k f=>by
  refine Classical.byContradiction fun q=>hno ⟨k+1,by omega,by omega,?_⟩
  unfold l7;rw[if_neg (by omega),show k+1-1=k by omega];exact q
 obtain⟨E,u⟩:=h.ti.ex;have s:∀k,k<n→E i k=0:=fun k f=>by
  have q:=u i k e (by omega);rw[zero k f,vX,kP f fun j t hne=>by rw[h.id j k t f,if_neg hne,Rat.zero_mul],h.id k k f f,if_pos rfl,Rat.one_mul]at q;exact q.symm
 have x:=u i (b i) e (h.ti.lt i e);rw[h.ti.un i i e e,if_pos rfl,vX,dM fun j t=>by rw[s j t,Rat.mul_zero]]at x;exact absurd x (by decide)
theorem SI.row{n:Nat}{Z T T':Nat→Nat→Rat}{b b':Nat→Nat}{c c':Nat}(h:SI n Z T b c)(s:SI n Z T' b' c')(hm:∀v,mem n b v↔mem n b' v){i j:Nat}(t:i<n)(u:j<n)(e:b i=b' j){k:Nat}(q:k<2*n+2):T i k=T' j k:=by
 obtain⟨E,K⟩:=s.ti.ex;obtain⟨F,L⟩:=h.sp
 let g:Nat→Rat:=fun m=>sm (fun l=>E j l*F l m) n
 have G:∀k,k<2*n+2→T' j k=sm (fun m=>g m*T m k) n:=fun k q=>by
  rw[K j k u q,vX];have O:sm (fun l=>Z l k*E j l) n=sm (fun l=>sm (fun m=>E j l*F l m*T m k) n) n:=aK fun l U=>by
   rw[L l k U q,Rat.mul_comm,←mY];exact aK fun m _=>by grind
  rw[O,wE];refine aK fun m _=>?_
  show _=sm (fun l=>E j l*F l m) n*T m k;rw[Rat.mul_comm,←mY];exact aK fun l _=>by grind
 have gd:∀m,m<n→g m=if m=i then 1 else 0:=fun m hmn=>by
  have I:=G (b m) (h.ti.lt m hmn);rw[kP hmn fun V x hne=>by rw[h.ti.un V m x hmn,if_neg hne,Rat.mul_zero],h.ti.un m m hmn hmn,if_pos rfl,Rat.mul_one]at I;obtain⟨J,f,y⟩:=(hm (b m)).1 ⟨m,hmn,rfl⟩;rw[←I,←y,s.ti.un j J u f];by_cases z:m=i
  ·subst z;rw[if_pos rfl,if_pos (s.inj j J u f (by rw[←e,y]))]
  ·rw[if_neg z,if_neg fun X=>z (h.inj m i hmn t (by rw[e,X,y]))]
 rw[G k q,kP t fun m hmn hne=>by rw[gd m hmn,if_neg hne,Rat.zero_mul],gd i t,if_pos rfl,Rat.one_mul]
def aAJ(n:Nat)(T:Nat→Nat→Rat)(x r:Nat):Prop:=0<T r x∧∀k,k<n→0<T k x→aEQ T n x k r
theorem aJ7{n w r c:Nat}{Z T:Nat→Nat→Rat}(h:∃F:Nat→Nat→Rat,∀i k,i<n→k<w→Z i k=sm (fun j=>F i j*T j k) n)(hr:r<n)(hp:T r c≠0):∃F:Nat→Nat→Rat,∀i k,i<n→k<w→Z i k=sm (fun j=>F i j*qC T r c j k) n:=by
 obtain⟨F,q⟩:=h;refine⟨fun i j=>if j=r then sm (fun l=>F i l*T l c) n else F i j,fun i k s t=>?_⟩;rw[q i k s t];have e:∀j,F i j*T j k=(if j=r then F i j*T j k-F i j*T j c*(T r k/T r c) else F i j*T j k-F i j*T j c*(T r k/T r c))+(T r k/T r c)*(F i j*T j c):=fun j=>by split<;>grind
 have u:sm (fun j=>F i j*T j k) n=sm (fun j=>F i j*T j k-(T r k/T r c)*(F i j*T j c)) n+(T r k/T r c)*sm (fun l=>F i l*T l c) n:=by
  rw[w7];grind
 have x:sm (fun j=>(if j=r then sm (fun l=>F i l*T l c) n else F i j)*qC T r c j k) n=sm (fun j=>(F i j*T j k-(T r k/T r c)*(F i j*T j c))+(if j=r then(T r k/T r c)*sm (fun l=>F i l*T l c) n else 0)) n:=aK fun j y=>by
  unfold qC;by_cases f:j=r
  ·subst f;rw[if_pos rfl,if_pos rfl,if_pos rfl];grind
  ·rw[if_neg f,if_neg f,if_neg f];grind
 rw[u,x,aA1];congr 1;rw[kP hr fun j y hne=>if_neg hne,if_pos rfl]
theorem SI.next{n r c:Nat}{Z T:Nat→Nat→Rat}{b:Nat→Nat}(h:SI n Z T b c)(hr:r<n)(f:aAJ n T c r)(j:b r<2*n):SI n Z (qC T r c) (gN b r c) (wV n (b r)):=by
 have hc:=h.hc;have hp:T r c≠0:=by have:=f.1;grind
 exact⟨h.ti.pivot hr (by omega) hp,h.ke.pivot hr hp,aJ7 h.sp hr hp,h.id,h.lx.pivot hr f.1 f.2,h.cb.next hr (by omega) j,fun i k=>by
  by_cases e:i=r
  ·rw[e,aN];omega
  ·rw[aZ e];exact h.hb i k,aIZ j⟩
theorem aIQ{n r c:Nat}{b:Nat→Nat}(s:∀i j,i<n→j<n→b i=b j→i=j)(hr:r<n)(hc:∀i,i<n→b i≠c)(v:Nat):mem n (gN b r c) v↔(v=c∨(mem n b v∧v≠b r)):=by
 constructor
 ·rintro⟨i,k,f⟩;by_cases e:i=r
  ·rw[e,aN]at f;exact Or.inl f.symm
  ·rw[aZ e]at f;exact Or.inr ⟨⟨i,k,f⟩,fun q=>e (s i r k hr (by rw[f,q]))⟩
 ·rintro(h|⟨⟨i,k,f⟩,q⟩)
  ·exact⟨r,hr,by rw[aN,h]⟩
  ·have e:i≠r:=fun e=>q (by rw[←f,e])
   exact⟨i,k,by rw[aZ e,f]⟩
theorem aWy{n r c:Nat}{Z T:Nat→Nat→Rat}{b:Nat→Nat}(h:SI n Z T b c)(hr:r<n)(t:aAJ n T c r):0<qC T r c r (b r)∧∀e,e<n→aAJ n (qC T r c) (b r) e→e=r:=by
 have hp:=t.1;have u:∀i,i<n→T i (b r)=if i=r then 1 else 0:=fun i x=>h.ti.un i r x hr
 have hrr:qC T r c r (b r)=1/T r c:=by unfold qC;rw[if_pos rfl,u r hr,if_pos rfl]
 have hpos:0<qC T r c r (b r):=by rw[hrr,Rat.div_def,Rat.one_mul];exact Rat.inv_pos.2 hp
 refine⟨hpos,fun e f j=>Classical.byContradiction fun hne=>?_⟩;have q:qC T r c e (b r)=-(T e c)/T r c:=by
  unfold qC;rw[if_neg hne,u e f,if_neg hne,u r hr,if_pos rfl];grind
 have y:=j.1;have G:T e c<0:=by
  refine Rat.not_le.1 fun z=>?_
  rw[q]at y;have:0≤T e c*(1/T r c):=Rat.mul_nonneg z (by rw[Rat.div_def,Rat.one_mul];exact Rat.le_of_lt (Rat.inv_pos.2 hp));grind
 have m:0<T r c/ -(T e c):=by rw[Rat.div_def];exact Rat.mul_pos hp (Rat.inv_pos.2 (by grind))
 have s:=((h.pos f).mul m).add (j.2 r hr hpos);obtain⟨k,_,_,F⟩:=s.zero;refine F ?_;rw[hrr,q];unfold qC;rw[if_pos rfl,if_neg hne];grind
theorem psl.nn{f:Nat→Rat}:∀{t j:Nat},psl f t j→nn f t j
 |0,_,h=>h.elim
 |t+1,j,h=>by
  unfold psl at h;unfold Go.Proofs.YtolfcbpgmfbgmaaGreat.nn;exact h.imp id fun h=>⟨h.1,h.2.nn⟩
theorem nn.congr_le{f g:Nat→Rat}:∀{t j:Nat},(∀k,k<j+t→f k=g k)→nn f t j→nn g t j
 |0,_,_,_=>trivial
 |t+1,j,e,h=>by
  unfold Go.Proofs.YtolfcbpgmfbgmaaGreat.nn at h ⊢;rw[←e j (by omega)];exact h.imp id fun h=>⟨h.1,nn.congr_le (fun k q=>e k (by omega)) h.2⟩
theorem aLN{f:Nat→Rat}(h:∀k,f k=0):∀t j,nn f t j
 |0,_=>trivial
 |t+1,j=>Or.inr ⟨h j,aLN h t (j+1)⟩
theorem aLf{n r c:Nat}{Z T:Nat→Nat→Rat}{b:Nat→Nat}(h:SI n Z T b c)(hr:r<n)(f:aAJ n T c r):aAJ n (qC T r c) (b r) r:=by
 have hp:=f.1;have u:∀i,i<n→T i (b r)=if i=r then 1 else 0:=fun i t=>h.ti.un i r t hr
 have hrr:qC T r c r (b r)=1/T r c:=by unfold qC;rw[if_pos rfl,u r hr,if_pos rfl]
 refine⟨(aWy h hr f).1,fun k q hkp=>?_⟩;unfold aEQ;by_cases e:k=r
 ·subst e;exact aLN (fun j=>by grind) _ _
 ·have s:qC T r c k (b r)=-(T k c)/T r c:=by
   unfold qC;rw[if_neg e,u k q,if_neg e,u r hr,if_pos rfl];grind
  have y:T k c<0:=by
   refine Rat.not_le.1 fun x=>?_
   rw[s]at hkp;have:0≤T k c*(1/T r c):=Rat.mul_nonneg x (by rw[Rat.div_def,Rat.one_mul];exact Rat.le_of_lt (Rat.inv_pos.2 hp));grind
  have m:0<T r c/ -(T k c):=by rw[Rat.div_def];exact Rat.mul_pos hp (Rat.inv_pos.2 (by grind))
  refine(((h.pos q).mul m).nn).congr fun j=>?_
  rw[hrr,s];unfold qC;rw[if_pos rfl,if_neg e];grind
theorem aDr{n:Nat}{Z T T':Nat→Nat→Rat}{b b':Nat→Nat}{c c' x r m:Nat}(h:SI n Z T b c)(F:SI n Z T' b' c')(hm:∀v,mem n b v↔mem n b' v)(hr:r<n)(hmn:m<n)(e:b' m=b r)(s:x<2*n+2)(y:aAJ n T x r):aAJ n T' x m:=by
 have row:∀i j,i<n→j<n→b i=b' j→∀k,k<2*n+2→T i k=T' j k:=fun i j f z e k q=>h.row F hm f z e q
 refine⟨by rw[←row r m hr hmn e.symm x s];exact y.1,fun k q hp=>?_⟩;obtain⟨i,f,t⟩:=(hm (b' k)).2 ⟨k,q,rfl⟩;have u:0<T i x:=by rw[row i k f q t x s];exact hp
 refine(y.2 i f u).congr_le fun j z=>?_
 have hc:l7 n j<2*n+2:=by unfold l7;split<;>omega
 rw[row i k f q t _ hc,row r m hr hmn e.symm _ hc,row i k f q t x s,row r m hr hmn e.symm x s]
structure Run (n:Nat) (Z:Nat→Nat→Rat) (TT:Nat→Nat→Nat→Rat) (BB:Nat→Nat→Nat) (CC:Nat→Nat) (N:Nat):Prop where
 si:∀k,k≤N→SI n Z (TT k) (BB k) (CC k)
 st:∀k,k<N→∃r,r<n∧aAJ n (TT k) (CC k) r∧BB k r<2*n∧TT (k+1)=qC (TT k) r (CC k)∧BB (k+1)=gN (BB k) r (CC k)∧CC (k+1)=wV n (BB k r)
 beg:∀i,i<n→TT 0 i (wV n (CC 0))≤0
section
variable {n N:Nat} {Z:Nat→Nat→Rat} {TT:Nat→Nat→Nat→Rat} {BB:Nat→Nat→Nat} {CC:Nat→Nat}
theorem Run.prev(h:Run n Z TT BB CC N){k:Nat}(F:k<N):∃r,r<n∧aAJ n (TT k) (CC k) r∧aAJ n (TT (k+1)) (wV n (CC (k+1))) r∧(∀j,j<n→aAJ n (TT (k+1)) (wV n (CC (k+1))) j→j=r)∧BB (k+1) r=CC k∧BB k r=wV n (CC (k+1))∧wV n (CC (k+1))<2*n∧
  (∀v,mem n (BB k) v↔(v=wV n (CC (k+1))∨(mem n (BB (k+1)) v∧v≠CC k)))∧(∀v,mem n (BB (k+1)) v↔(v=CC k∨(mem n (BB k) v∧v≠wV n (CC (k+1))))):=by
 obtain⟨r,f,q,x,y,s,G⟩:=h.st k F;have hs:=h.si k (by omega);have e:wV n (CC (k+1))=BB k r:=by rw[G,aCH x]
 have hm:=aIQ (v:=0) hs.inj f hs.cb.nc;refine⟨r,f,q,?_,?_,by rw[s,aN],e.symm,by rw[e];exact x,fun v=>?_,fun v=>?_⟩
 ·rw[e,y];exact aLf hs f q
 ·rw[e,y];exact(aWy hs f q).2
 ·rw[s,aIQ hs.inj f hs.cb.nc,e];constructor
  ·intro hv;by_cases z:v=BB k r
   ·exact Or.inl z
   ·refine Or.inr ⟨Or.inr ⟨hv,z⟩,fun I=>?_⟩;obtain⟨i,J,t⟩:=hv;exact hs.cb.nc i J (by rw[t,I])
  ·rintro(hv|⟨hv|hv,u⟩)
   ·exact⟨r,f,hv.symm⟩
   ·exact absurd hv u
   ·exact hv.1
 ·rw[s,aIQ hs.inj f hs.cb.nc,e]
theorem Run.key(h:Run n Z TT BB CC N):∀i j,i<j→j≤N→CC i=CC j→(∀v,mem n (BB i) v↔mem n (BB j) v)→False
 |i,0,hij,_,_,_=>by omega
 |0,j+1,hij,t,hc,hs=>by
  obtain⟨r,k,_,u,_,y,_,z,_⟩:=h.prev (show j<N by omega);obtain⟨m,s,f⟩:=(hs (BB (j+1) r)).2 ⟨r,k,rfl⟩;have l:=aDr (h.si (j+1) t) (h.si 0 (by omega)) (fun v=>(hs v).symm) k s f (x:=wV n (CC (j+1))) (by omega) u;rw[←hc]at l;exact absurd l.1 (Rat.not_lt.2 (h.beg m s))
 |i+1,j+1,hij,t,hc,hs=>by
  obtain⟨r,k,_,u,_,y,_,z,F,_⟩:=h.prev (show j<N by omega);obtain⟨q,K,_,L,G,I,_,_,J,_⟩:=h.prev (show i<N by omega);obtain⟨m,s,f⟩:=(hs (BB (j+1) r)).2 ⟨r,k,rfl⟩;have l:=aDr (h.si (j+1) t) (h.si (i+1) (by omega)) (fun v=>(hs v).symm) k s f (x:=wV n (CC (j+1))) (by omega) u;rw[←hc]at l;have e:=G m s l;rw[e,I,y]at f;refine h.key i j (by omega) (by omega) f fun v=>?_
  rw[F,J,hs v,hc,f]
theorem Run.turn(h:Run n Z TT BB CC N):∀g i j,j=i+g→i<j→j≤N→CC j=wV n (CC i)→(∀v,mem n (BB i) v↔mem n (BB j) v)→False
 |0,i,j,u,hij,_,_,_=>by omega
 |1,i,j,u,hij,G,hc,hs=>by
  subst u;obtain⟨r,V,X,I,y,J,K,L,z,F⟩:=h.prev (show i<N by omega);have s:=(hs (CC i)).2 ((F (CC i)).2 (Or.inl rfl));obtain⟨m,t,k⟩:=s;exact(h.si i (by omega)).cb.nc m t k
 |g+2,i,j,u,hij,G,hc,hs=>by
  obtain⟨f,rfl⟩:∃f,j=f+1:=⟨j-1,by omega⟩;obtain⟨r,V,X,I,y,J,K,L,z,F⟩:=h.prev (show f<N by omega);obtain⟨q,O,Y,q3,q4,q5,q6,q7,q8,q9⟩:=h.prev (show i<N by omega);have hci:=(h.si i (by omega)).hc;have ex:wV n (CC (f+1))=CC i:=by rw[hc,aCH hci]
  rw[ex]at I y K L z F;obtain⟨m,t,k⟩:=(hs (BB i q)).1 ⟨q,O,rfl⟩;have l:=aDr (h.si i (by omega)) (h.si (f+1) G) hs O t k (x:=CC i) (by omega) Y;have e:=y m t l;rw[e,J,q6]at k;have U:=(h.si (i+1) (by omega)).hc;have s2:∀v,mem n (BB (i+1)) v↔mem n (BB f) v:=fun v=>by rw[q9,z,hs v,k]
  by_cases e2:i+1=f
  ·subst e2;rcases aP5 (n:=n) (x:=CC (i+1)) (by omega) with s|s
   ·exact s k.symm
   ·omega
  ·exact h.turn g (i+1) f (by omega) (by omega) (by omega) k s2
end
theorem pig:∀(n m:Nat) (f:Nat→Nat),(∀i,i<n→f i<m)→(∀i j,i<n→j<n→f i=f j→i=j)→n≤m
 |0,m,f,_,_=>Nat.zero_le _
 |n+1,m,f,k,h=>by
  have t:=k n (by omega);have:=pig n (m-1) (fun i=>if f i<f n then f i else f i-1) (fun i s=>by
   have a:=k i (by omega);have b:f i≠f n:=fun e=>by have:=h i n (by omega) (by omega) e;omega
   show(if f i<f n then f i else f i-1)<m-1;split<;>omega) (fun i j s u e=>by
   have b:f i≠f n:=fun e=>by have:=h i n (by omega) (by omega) e;omega
   have c:f j≠f n:=fun e=>by have:=h j n (by omega) (by omega) e;omega
   refine h i j (by omega) (by omega) ?_;have q:(if f i<f n then f i else f i-1)=(if f j<f n then f j else f j-1):=e;split at q<;>split at q<;>omega)
  omega
def idx(n v:Nat):Nat:=if v<n then v else v-n
theorem aDA{n u v:Nat}(hu:u<2*n)(hv:v<2*n)(h:idx n u=idx n v):u=v∨u=wV n v:=by
 unfold idx at h;unfold wV;split at h<;>split at h<;>split<;>omega
theorem aFk{n v:Nat}(h:v<2*n):idx n v<n:=by unfold idx;split<;>omega
theorem aPK{n:Nat}{Z T T':Nat→Nat→Rat}{b b':Nat→Nat}{c c':Nat}(h:SI n Z T b c)(z:SI n Z T' b' c')(hm:∀v,mem n b v↔mem n b' v):c'=c∨c'=wV n c:=by
 refine Classical.byContradiction fun hno=>?_
 have hc:=h.hc;have u:=z.hc;have F:idx n c≠idx n c':=fun e=>hno (aDA u hc e.symm)
 have no':∀i,i<n→b i≠c'∧b i≠wV n c':=fun i k=>by
  obtain⟨j,s,e⟩:=(hm (b i)).1 ⟨i,k,rfl⟩;exact⟨fun t=>z.cb.nc j s (by rw[e,t]),fun t=>z.cb.np u j s (by rw[e,t])⟩
 let f:Nat→Nat:=fun i=>if b i=2*n then idx n c else idx n (b i)
 have lt:∀i,i<n→b i≠2*n→b i<2*n:=fun i k hne=>by have:=h.hb i k;omega
 have f1:∀i,i<n→f i<n:=fun i k=>by
  show(if b i=2*n then idx n c else idx n (b i))<n;by_cases e:b i=2*n
  ·rw[if_pos e];exact aFk hc
  ·rw[if_neg e];exact aFk (lt i k e)
 have f2:∀i,i<n→f i≠idx n c':=fun i k=>by
  show(if b i=2*n then idx n c else idx n (b i))≠idx n c';by_cases e:b i=2*n
  ·rw[if_pos e];exact F
  ·rw[if_neg e];intro t;rcases aDA (lt i k e) u t with q|q
   ·exact(no' i k).1 q
   ·exact(no' i k).2 q
 have f3:∀i j,i<n→j<n→f i=f j→i=j:=fun i j k s e=>by
  have x:(if b i=2*n then idx n c else idx n (b i))=(if b j=2*n then idx n c else idx n (b j)):=e;by_cases y:b i=2*n
  ·by_cases t:b j=2*n
   ·exact h.inj i j k s (by rw[y,t])
   ·rw[if_pos y,if_neg t]at x;rcases aDA (lt j s t) hc x.symm with q|q
    ·exact absurd q (h.cb.nc j s)
    ·exact absurd q (h.cb.np hc j s)
  ·by_cases t:b j=2*n
   ·rw[if_neg y,if_pos t]at x;rcases aDA (lt i k y) hc x with q|q
    ·exact absurd q (h.cb.nc i k)
    ·exact absurd q (h.cb.np hc i k)
   ·rw[if_neg y,if_neg t]at x;rcases aDA (lt i k y) (lt j s t) x with q|q
    ·exact h.inj i j k s q
    ·exact absurd q (h.cb.pr j i s k (lt j s t))
 have hq:=aFk u;have:=pig n (n-1) (fun i=>if f i<idx n c' then f i else f i-1) (fun i k=>by
  have a:=f1 i k;have b:=f2 i k;show(if f i<idx n c' then f i else f i-1)<n-1;split<;>omega) (fun i j k s e=>by
  have a:=f2 i k;have b:=f2 j s;refine f3 i j k s ?_;have x:(if f i<idx n c' then f i else f i-1)=(if f j<idx n c' then f j else f j-1):=e;split at x<;>split at x<;>omega)
 omega
theorem Run.distinct{n N:Nat}{Z:Nat→Nat→Rat}{TT:Nat→Nat→Nat→Rat}{BB:Nat→Nat→Nat}{CC:Nat→Nat}(h:Run n Z TT BB CC N){i j:Nat}(hij:i<j)(f:j≤N)(hs:∀v,mem n (BB i) v↔mem n (BB j) v):False:=by
 rcases aPK (h.si i (by omega)) (h.si j f) hs with e|e
 ·exact h.key i j hij f e.symm hs
 ·exact h.turn (j-i) i j (by omega) hij f e hs
open Classical in
noncomputable def dg(n:Nat)(b:Nat→Nat)(j:Nat):Nat:=if mem n b j then 1 else if mem n b (n+j) then 2 else 0
noncomputable def cde(n:Nat)(b:Nat→Nat):Nat→Nat
 |0=>0
 |j+1=>3*cde n b j+dg n b j
theorem aM1{n:Nat}{b:Nat→Nat}{j:Nat}:dg n b j≤2:=by unfold dg;split;omega;split<;>omega
theorem aPI{n:Nat}{b:Nat→Nat}:∀m,cde n b m<3^m
 |0=>Nat.one_pos
 |m+1=>by
  have:=aPI (n:=n) (b:=b) m;have:=aM1 (n:=n) (b:=b) (j:=m);show 3*cde n b m+dg n b m<3^(m+1);rw[Nat.pow_succ];omega
theorem aMm{n:Nat}{b:Nat→Nat}{j:Nat}(f:dg n b j=0):∀m,j<m→cde n b m+1<3^m
 |0,h=>by omega
 |m+1,h=>by
  have k:=aPI (n:=n) (b:=b) m;have q:=aM1 (n:=n) (b:=b) (j:=m);show 3*cde n b m+dg n b m+1<3^(m+1);rw[Nat.pow_succ];by_cases e:j=m
  ·subst e;rw[f];omega
  ·have:=aMm f m (by omega);omega
theorem aL3{n:Nat}{b b':Nat→Nat}:∀m,cde n b m=cde n b' m→∀j,j<m→dg n b j=dg n b' j
 |0,_,j,f=>by omega
 |m+1,h,j,f=>by
  have k:=aM1 (n:=n) (b:=b) (j:=m);have q:=aM1 (n:=n) (b:=b') (j:=m);have s:3*cde n b m+dg n b m=3*cde n b' m+dg n b' m:=h;by_cases e:j=m
  ·subst e;omega
  ·exact aL3 m (by omega) j (by omega)
theorem SI.last{n:Nat}{Z T:Nat→Nat→Rat}{b:Nat→Nat}{c:Nat}(h:SI n Z T b c):mem n b (2*n):=by
 refine Classical.byContradiction fun hno=>?_
 have hc:=h.hc;have lt:∀i,i<n→b i<2*n:=fun i f=>by
  have:=h.hb i f;have:b i≠2*n:=fun e=>hno ⟨i,f,e⟩
  omega
 have hq:=aFk hc;have f2:∀i,i<n→idx n (b i)≠idx n c:=fun i f e=>by
  rcases aDA (lt i f) hc e with k|k
  ·exact h.cb.nc i f k
  ·exact h.cb.np hc i f k
 have:=pig n (n-1) (fun i=>if idx n (b i)<idx n c then idx n (b i) else idx n (b i)-1) (fun i f=>by
  have a:=aFk (lt i f);have b:=f2 i f;show(if idx n (_)<idx n c then _ else _)<n-1;split<;>omega) (fun i j f q e=>by
  have a:=f2 i f;have b':=f2 j q;have s:(if idx n (b i)<idx n c then idx n (b i) else idx n (b i)-1)=(if idx n (b j)<idx n c then idx n (b j) else idx n (b j)-1):=e;have t:idx n (b i)=idx n (b j):=by split at s<;>split at s<;>omega
  rcases aDA (lt i f) (lt j q) t with k|k
  ·exact h.inj i j f q k
  ·exact absurd k (h.cb.pr j i q f (lt j q)))
 omega
theorem aTL{n:Nat}{b b':Nat→Nat}(hb:∀i,i<n→b i≤2*n)(hp:∀i j,i<n→j<n→b i<2*n→b j≠wV n (b i))(s:∀i,i<n→b' i≤2*n)(t:∀i j,i<n→j<n→b' i<2*n→b' j≠wV n (b' i))(h:∀j,j<n→dg n b j=dg n b' j)(x:mem n b (2*n)↔mem n b' (2*n))(v:Nat):mem n b v↔mem n b' v:=by
 have both:∀{b:Nat→Nat},(∀i j,i<n→j<n→b i<2*n→b j≠wV n (b i))→∀j,j<n→mem n b j→¬mem n b (n+j):=fun hp j q e f=>by
  obtain⟨i,i1,i2⟩:=e;obtain⟨k,y,z⟩:=f;refine hp i k i1 y (by omega) ?_;rw[z,i2];unfold wV;rw[if_pos q];omega
 by_cases F:v<n
 ·have:=h v F;unfold dg at this;constructor
  ·intro e;rw[if_pos e]at this;refine Classical.byContradiction fun f=>?_
   rw[if_neg f]at this;split at this<;>omega
  ·intro e;rw[if_pos e]at this;refine Classical.byContradiction fun f=>?_
   rw[if_neg f]at this;split at this<;>omega
 ·by_cases I:v<2*n
  ·obtain⟨j,rfl⟩:∃j,v=n+j:=⟨v-n,by omega⟩;have q:j<n:=by omega
   have:=h j q;unfold dg at this;constructor
   ·intro e;rw[if_neg (fun u=>both hp j q u e),if_pos e]at this;refine Classical.byContradiction fun f=>?_
    rw[if_neg f]at this;split at this<;>omega
   ·intro e;rw[if_neg (fun u=>both t j q u e),if_pos e]at this;refine Classical.byContradiction fun f=>?_
    rw[if_neg f]at this;split at this<;>omega
  ·by_cases G:v=2*n
   ·rw[G];exact x
   ·constructor
    ·rintro⟨i,i1,i2⟩;have:=hb i i1;omega
    ·rintro⟨i,i1,i2⟩;have:=s i i1;omega
theorem Run.short{n N:Nat}{Z:Nat→Nat→Rat}{TT:Nat→Nat→Nat→Rat}{BB:Nat→Nat→Nat}{CC:Nat→Nat}(h:Run n Z TT BB CC N):N+2≤3^n:=by
 have q:=(h.si 0 (by omega)).hc;have lt:∀k,k<N+1→cde n (BB k) n<3^n-1:=fun k t=>by
  have hs:=h.si k (by omega);have hc:=hs.hc;have s:dg n (BB k) (idx n (CC k))=0:=by
   have a1:¬mem n (BB k) (CC k):=fun⟨i,i1,i2⟩=>hs.cb.nc i i1 i2
   have a2:¬mem n (BB k) (wV n (CC k)):=fun⟨i,i1,i2⟩=>hs.cb.np hc i i1 i2
   unfold dg idx;unfold wV at a2;by_cases e:CC k<n
   ·rw[if_pos e]at a2 ⊢;rw[if_neg a1,if_neg (by rw[Nat.add_comm];exact a2)]
   ·rw[if_neg e]at a2 ⊢;rw[if_neg a2,if_neg (by rw[show n+(CC k-n)=CC k by omega];exact a1)]
  have:=aMm s n (aFk hc);omega
 have:=pig (N+1) (3^n-1) (fun k=>cde n (BB k) n) lt (fun i j u x e=>by
  have same:∀v,mem n (BB i) v↔mem n (BB j) v:=by
   have si:=h.si i (by omega);have sj:=h.si j (by omega);exact aTL si.hb si.cb.pr sj.hb sj.cb.pr (aL3 n e) ⟨fun _=>sj.last,fun _=>si.last⟩
  rcases Nat.lt_trichotomy i j with f|f|f
  ·exact(h.distinct f (by omega) same).elim
  ·exact f
  ·exact(h.distinct f (by omega) fun v=>(same v).symm).elim)
 omega
/-- A state of the run. -/
structure SS where
 t:Nat→Nat→Rat
 b:Nat→Nat
 c:Nat
def aG0(n:Nat)(s:SS):SS:=
 match sel s.t n s.c n 0 none with
 |none=>s
 |some r=>⟨qC s.t r s.c,gN s.b r s.c,wV n (s.b r)⟩
def sG(n:Nat)(s:SS):Nat→SS
 |0=>s
 |k+1=>aG0 n (sG n s k)
theorem aEO{n:Nat}{s:SS}:∀k,sG n (aG0 n s) k=sG n s (k+1)
 |0=>rfl
 |k+1=>by
  show aG0 n (sG n (aG0 n s) k)=aG0 n (sG n s (k+1));rw[aEO k]
def aO5(n:Nat)(s:SS):Prop:=∃r,sel s.t n s.c n 0 none=some r∧s.b r≠2*n
theorem aJ5{n most:Nat}:∀f T b r c cnt,cnt+f=most+1→sel T n c n 0 none=some r→(lem n most f T b r c cnt).2=16→∀k,k+cnt<most→aO5 n (sG n ⟨T,b,c⟩ k)
 |0,T,b,r,c,cnt,q,hs,h,k,s=>by omega
 |f+1,T,b,r,c,cnt,q,hs,h,k,s=>by
  unfold lem at h;rw[if_neg (show¬cnt=most by omega)]at h;by_cases j:b r=2*n
  ·rw[if_pos j]at h;exact absurd h (show¬(0:Int)=16 by decide)
  ·rw[if_neg j]at h;have t:aG0 n ⟨T,b,c⟩=⟨qC T r c,gN b r c,wV n (b r)⟩:=by unfold aG0;simp only[hs]
   cases k with
   |zero=>exact⟨r,hs,j⟩
   |succ k=>
    rw[←aEO,t];cases e:sel (qC T r c) n (if b r<n then b r+n else b r-n) n 0 none with
    |none=>rw[e]at h;exact absurd h (show¬(15:Int)=16 by decide)
    |some u=>
     rw[e]at h;exact aJ5 f (qC T r c) (gN b r c) u _ (cnt+1) (by omega) e h k (by omega)
theorem aNT{n c r:Nat}{T:Nat→Nat→Rat}(h:sel T n c n 0 none=some r):r<n∧aAJ n T c r:=by
 obtain⟨s1,s2⟩:=aAh n 0 none r (fun q hq=>by cases hq) h;have hm:=aCE n 0 none r (fun q hq=>by cases hq) (fun _ k e=>by omega) h;exact⟨by omega,aDX.1 s2,fun k e hp=>hm k (by omega) (aDX.2 hp)⟩
theorem aJH{n N:Nat}{Z:Nat→Nat→Rat}{s:SS}(hs:SI n Z s.t s.b s.c)(hb:∀i,i<n→s.t i (wV n s.c)≤0)(x:∀k,k<N→aO5 n (sG n s k)):Run n Z (fun k=>(sG n s k).t) (fun k=>(sG n s k).b) (fun k=>(sG n s k).c) N:=by
 have step:∀k,k<N→SI n Z (sG n s k).t (sG n s k).b (sG n s k).c→∃r,r<n∧aAJ n (sG n s k).t (sG n s k).c r∧(sG n s k).b r<2*n∧(sG n s (k+1)).t=qC (sG n s k).t r (sG n s k).c∧(sG n s (k+1)).b=gN (sG n s k).b r (sG n s k).c∧(sG n s (k+1)).c=wV n ((sG n s k).b r):=fun k f h=>by
  obtain⟨r,j,q⟩:=x k f;obtain⟨u,y⟩:=aNT j;have e:sG n s (k+1)=⟨qC (sG n s k).t r (sG n s k).c,gN (sG n s k).b r (sG n s k).c,wV n ((sG n s k).b r)⟩:=by
   show aG0 n (sG n s k)=_;unfold aG0;simp only[j]
  have:=h.hb r u;exact⟨r,u,y,by omega,by rw[e],by rw[e],by rw[e]⟩
 have si:∀k,k≤N→SI n Z (sG n s k).t (sG n s k).b (sG n s k).c:=fun k=>by
  induction k with
  |zero=>intro _;exact hs
  |succ k ih=>
   intro f;have h:=ih (by omega);obtain⟨r,j,q,z,F,G,I⟩:=step k (by omega) h;rw[F,G,I];exact h.next j q z
 exact⟨si,fun k f=>step k f (si k (by omega)),hb⟩
theorem aOl{M:Nat→Nat→Rat}{q:Nat→Rat}{n:Nat}(hneg:ng q n 0=true):SI n (pH M q n) (qC (pH M q n) (aAD (pH M q n) n n 0 0) (2*n)) (gN (fun j=>j) (aAD (pH M q n) n n 0 0) (2*n)) (wV n (aAD (pH M q n) n n 0 0))∧aAD (pH M q n) n n 0 0<n∧
  ∀i,i<n→qC (pH M q n) (aAD (pH M q n) n n 0 0) (2*n) i (wV n (wV n (aAD (pH M q n) n n 0 0)))≤0:=by
 have hlx:=aO8 (M:=M) hneg;have hr:aAD (pH M q n) n n 0 0<n:=aBC n 0 0 (aCA hneg) (by omega);generalize aAD (pH M q n) n n 0 0=r at *;have hp:pH M q n r (2*n)≠0:=by rw[aDL];decide
 have one:∀i j,i<n→j<n→pH M q n i j=if i=j then 1 else 0:=fun i j f h=>by unfold pH;rw[if_pos h]
 refine⟨⟨aLt.pivot hr (by omega) hp,KE.pivot (fun x s=>s) hr hp,aJ7 ⟨fun i j=>if i=j then 1 else 0,fun i k f t=>?_⟩ hr hp,one,hlx,aOL.next hr (Nat.le_refl _) (by omega),fun i f=>?_,aIZ (by omega)⟩,hr,fun i f=>?_⟩
 ·show pH M q n i k=sm (fun j=>(if i=j then 1 else 0)*pH M q n j k) n;rw[kP f fun j h hne=>by rw[if_neg fun e=>hne e.symm,Rat.zero_mul],if_pos rfl,Rat.one_mul]
 ·by_cases e:i=r
  ·rw[e,aN];exact Nat.le_refl _
  ·rw[aZ e];omega
 ·rw[aCH (by omega)];unfold qC;rw[aDL,aDL,one r r hr hr,if_pos rfl,one i r f hr];by_cases e:i=r
  ·rw[if_pos e];grind
  ·rw[if_neg e,if_neg e];grind
theorem aNZ{M:Nat→Nat→Rat}{q:Nat→Rat}{n most:Nat}(hm:3^n≤most):(zJ M q n most).2≠16:=by
 unfold zJ;cases hneg:ng q n 0
 ·rw[bG];exact show¬(0:Int)=16 by decide
 ·rw[bL];obtain⟨e,y,f⟩:=aOl (M:=M) hneg;have t:=aCA hneg;have h3n:3≤3^n:=by
   calc 3=3^1:=rfl
    _≤3^n:=Nat.pow_le_pow_right (by decide) t
  generalize hr:aAD (pH M q n) n n 0 0=r at *;intro h;unfold lem at h;rw[if_neg (show¬0=most by omega),if_neg (show¬r=2*n by omega)]at h;cases hs:sel (qC (pH M q n) r (2*n)) n (if r<n then r+n else r-n) n 0 none with
  |none=>rw[hs]at h;exact absurd h (show¬(15:Int)=16 by decide)
  |some u=>
   rw[hs]at h;have x:=aJ5 most (qC (pH M q n) r (2*n)) (gN (fun j=>j) r (2*n)) u _ (0+1) (by omega) hs h;have run:=aJH (N:=most-1) (s:=⟨qC (pH M q n) r (2*n),gN (fun j=>j) r (2*n),wV n r⟩) e f (fun k z=>x k (by omega));have:=run.short;omega
theorem aCj{T:Nat→Nat→Rat}{n c:Nat}:∀t i s,sel T n c t i s=none→s=none∧∀k,i≤k→k<i+t→¬0<(T k c).num.sign
 |0,i,s,h=>⟨h,fun k f j=>by omega⟩
 |t+1,i,s,h=>by
  unfold sel at h;by_cases hp:0<(T i c).num.sign
  ·rw[decide_eq_true hp,bL]at h;cases s with
   |none=>have:=(aCj t (i+1) (some i) h).1;cases this
   |some p=>
    simp only at h;cases q:les T n i (T i c) p (T p c)
    ·rw[q,bG]at h;have:=(aCj t (i+1) (some p) h).1;cases this
    ·rw[q,bL]at h;have:=(aCj t (i+1) (some i) h).1;cases this
  ·rw[decide_eq_false hp,bG]at h;obtain⟨f,j⟩:=aCj t (i+1) s h;refine⟨f,fun k u x=>?_⟩;by_cases e:k=i
   ·rw[e];exact hp
   ·exact j k (by omega) (by omega)
theorem aL5{n most:Nat}:∀f T b r c cnt,sel T n c n 0 none=some r→(lem n most f T b r c cnt).2=15→∃k,(∀j,j<k→aO5 n (sG n ⟨T,b,c⟩ j))∧sel (sG n ⟨T,b,c⟩ k).t n (sG n ⟨T,b,c⟩ k).c n 0 none=none
 |0,T,b,r,c,cnt,hs,h=>absurd h (show¬(16:Int)=15 by decide)
 |f+1,T,b,r,c,cnt,hs,h=>by
  unfold lem at h;by_cases e:cnt=most
  ·rw[if_pos e]at h;exact absurd h (show¬(16:Int)=15 by decide)
  ·rw[if_neg e]at h;by_cases u:b r=2*n
   ·rw[if_pos u]at h;exact absurd h (show¬(0:Int)=15 by decide)
   ·rw[if_neg u]at h;have x:aG0 n ⟨T,b,c⟩=⟨qC T r c,gN b r c,wV n (b r)⟩:=by unfold aG0;simp only[hs]
    have first:aO5 n (sG n ⟨T,b,c⟩ 0):=⟨r,hs,u⟩
    cases q:sel (qC T r c) n (if b r<n then b r+n else b r-n) n 0 none with
    |none=>
     refine⟨1,fun j y=>by rw[show j=0 by omega];exact first,?_⟩;have s:sG n ⟨T,b,c⟩ 1=⟨qC T r c,gN b r c,wV n (b r)⟩:=x;rw[s];exact q
    |some z=>
     rw[q]at h;obtain⟨k,F,G⟩:=aL5 f (qC T r c) (gN b r c) z _ (cnt+1) q h;have s:∀j,sG n ⟨qC T r c,gN b r c,wV n (b r)⟩ j=sG n ⟨T,b,c⟩ (j+1):=fun j=>by rw[←x,aEO]
     refine⟨k+1,fun j y=>?_,?_⟩
     ·cases j with
      |zero=>exact first
      |succ j=>rw[←s];exact F j (by omega)
     ·rw[←s];exact G
def bX(T:Nat→Nat→Rat)(b:Nat→Nat)(n k m:Nat):Rat:=sm (fun i=>if b i=m then T i k else 0) n
theorem aPi{n:Nat}{Z T:Nat→Nat→Rat}{b:Nat→Nat}{c k:Nat}(h:SI n Z T b c){i:Nat}(f:i<n):bX T b n k (b i)=T i k:=by
 unfold bX;rw[kP f fun j q hne=>if_neg fun e=>hne (h.inj j i q f e),if_pos rfl]
theorem aFv{n:Nat}{T:Nat→Nat→Rat}{b:Nat→Nat}{k m:Nat}(h:¬mem n b m):bX T b n k m=0:=by
 unfold bX;exact dM fun i f=>if_neg fun e=>h ⟨i,f,e⟩
theorem aMu{n:Nat}{Z T:Nat→Nat→Rat}{b:Nat→Nat}{c k:Nat}(h:SI n Z T b c)(s:k<2*n+2){i:Nat}(f:i<n):sm (fun m=>T i m*(bX T b n k m-if m=k then 1 else 0)) (2*n+2)=0:=by
 have t:sm (fun m=>T i m*(bX T b n k m-if m=k then 1 else 0)) (2*n+2)=sm (fun m=>T i m*bX T b n k m) (2*n+2)-1*sm (fun m=>if m=k then T i m else 0) (2*n+2):=by
  rw[←w7];refine aK fun m _=>?_
  by_cases e:m=k
  ·rw[if_pos e,if_pos e];grind
  ·rw[if_neg e,if_neg e];grind
 have u:sm (fun m=>if m=k then T i m else 0) (2*n+2)=T i k:=by
  rw[kP s fun m _ hne=>if_neg hne,if_pos rfl]
 have x:sm (fun m=>T i m*bX T b n k m) (2*n+2)=sm (fun m=>sm (fun j=>if b j=m then T i m*T j k else 0) n) (2*n+2):=aK fun m _=>by
  unfold bX;rw[←mY];refine aK fun j _=>?_
  by_cases e:b j=m
  ·rw[if_pos e,if_pos e]
  ·rw[if_neg e,if_neg e,Rat.mul_zero]
 have y:sm (fun j=>sm (fun m=>if b j=m then T i m*T j k else 0) (2*n+2)) n=T i k:=by
  have:sm (fun j=>sm (fun m=>if b j=m then T i m*T j k else 0) (2*n+2)) n=sm (fun j=>T i (b j)*T j k) n:=aK fun j q=>by
   have:=h.ti.lt j q;rw[kP (p:=b j) (by omega) fun m _ hne=>if_neg fun e=>hne e.symm,if_pos rfl]
  rw[this,kP f fun j q hne=>by rw[h.ti.un i j f q,if_neg fun e=>hne e.symm,Rat.zero_mul],h.ti.un i i f f,if_pos rfl,Rat.one_mul]
 rw[t,u,x,wE,y];grind
theorem aMg{M:Nat→Nat→Rat}{q x:Nat→Rat}{n i:Nat}(f:i<n)(h:sm (fun k=>pH M q n i k*x k) (2*n+2)=0):x i=sm (fun j=>M i j*x (n+j)) n+x (2*n)-q i*x (2*n+1):=by
 have e:2*n+2=(n+n)+2:=by omega
 rw[e,uP,uP]at h;have s:sm (fun k=>pH M q n i k*x k) n=x i:=by
  have:pH M q n i i=1:=by unfold pH;rw[if_pos f,if_pos rfl]
  rw[kP f fun k t hne=>by unfold pH;rw[if_pos t,if_neg fun e=>hne e.symm,Rat.zero_mul],this,Rat.one_mul]
 have u:sm (fun j=>pH M q n i (n+j)*x (n+j)) n=-(sm (fun j=>M i j*x (n+j)) n):=by
  rw[←uB];refine aK fun j z=>?_
  unfold pH;rw[if_neg (by omega),if_pos (by omega),show n+j-n=j by omega,Rat.neg_mul]
 have y:sm (fun j=>pH M q n i (n+n+j)*x (n+n+j)) 2=-(x (2*n))+q i*x (2*n+1):=by
  show 0+pH M q n i (n+n+0)*x (n+n+0)+pH M q n i (n+n+1)*x (n+n+1)=_;rw[show n+n+0=2*n by omega,show n+n+1=2*n+1 by omega,aDL,aCd];grind
 rw[s,u,y]at h;grind
theorem psl.congr_lt{f g:Nat→Rat}:∀{t j:Nat},psl f t j→(∀k,k<j+t→f k=g k)→psl g t j
 |0,_,h,_=>h
 |t+1,j,h,e=>by
  unfold psl at h ⊢;rw[←e j (by omega)];exact h.imp _root_.id fun h=>⟨h.1,h.2.congr_lt fun k q=>e k (by omega)⟩
theorem psl.ex{f:Nat→Rat}:∀{t j:Nat},psl f t j→∃k,j≤k∧k<j+t∧0<f k
 |0,_,h=>h.elim
 |t+1,j,h=>by
  unfold psl at h;rcases h with h|⟨_,h⟩
  ·exact⟨j,by omega,by omega,h⟩
  ·obtain⟨k,q,s,e⟩:=h.ex;exact⟨k,by omega,by omega,e⟩
theorem aFX{f:Nat→Rat}:∀{n:Nat},(∀i,i<n→0≤f i)→sm f n=0→∀i,i<n→f i=0
 |0,_,_,i,j=>by omega
 |n+1,h,e,i,j=>by
  have q:=pW (f:=f) (n:=n) fun i j=>h i (by omega)
  have s:=h n (by omega);have t:sm f n+f n=0:=e;by_cases k:i=n
  ·rw[k];grind
  ·exact aFX (f:=f) (n:=n) (fun i j=>h i (by omega)) (by grind) i (by omega)
theorem aQt{n B:Nat}{T:Nat→Nat→Rat}{b:Nat→Nat}(f:qX n (2*n+2) B T)(hB:1≤B):∀i,i≤n→∀j,Bd B (szv T b n i j)
 |0,_,j=>Bd.zero.mono hB
 |i+1,h,j=>by
  have ih:=aQt (b:=b) f hB i (by omega);unfold szv;split
  ·exact ih j
  ·split
   ·by_cases e:j=b i-n
    ·subst e;rw[aN];exact f i _ (by omega) (by omega)
    ·rw[aZ e];exact ih j
   ·exact ih j
theorem aTj{n most B:Nat}{Z:Nat→Nat→Rat}(s:Sm n B Z)(hB:1≤B):∀(f:Nat) (T:Nat→Nat→Rat) (b:Nat→Nat) (r c cnt:Nat),LI n Z T b r c→(lem n most f T b r c cnt).2=0→(lem n most f T b r c cnt).1.z.length=n∧Bds B (lem n most f T b r c cnt).1.z
 |0,T,b,r,c,cnt,h,k=>absurd (show(16:Int)=0 from k) (by decide)
 |f+1,T,b,r,c,cnt,h,k=>by
  unfold lem at k ⊢;by_cases e:cnt=most
  ·rw[if_pos e]at k;exact absurd k (by decide)
  ·rw[if_neg e]at k ⊢;have hcw:=h.hc;by_cases q:b r=2*n
   ·rw[if_pos q];have ti':=h.ti.pivot h.hr (show c<2*n+2 by omega) h.hp;exact⟨aO _ _,yT fun j _=>aQt (s _ _ ti') hB n (Nat.le_refl _) j⟩
   ·rw[if_neg q]at k ⊢;cases hs:sel (qC T r c) n (if b r<n then b r+n else b r-n) n 0 none with
    |none=>rw[hs]at k;exact absurd (show(15:Int)=0 from k) (by decide)
    |some t=>
     rw[hs]at k;exact aTj s hB f _ _ _ _ _ (h.next q hs) k
theorem aTS{M:Nat→Nat→Rat}{q:Nat→Rat}{n B most:Nat}(f:Sm n B (pH M q n))(hB:1≤B)(e:(zJ M q n most).2=0):(zJ M q n most).1.z.length=n∧Bds B (zJ M q n most).1.z:=by
 unfold zJ at e ⊢;by_cases hneg:ng q n 0=true
 ·rw[hneg,bL]at e ⊢;exact aTj f hB _ _ _ _ _ _ (aKX (aBC n 0 0 (aCA hneg) (by omega))) e
 ·have hneg':ng q n 0=false:=by cases h:ng q n 0 with|true=>exact absurd h hneg|false=>rfl
  rw[hneg',bG];exact⟨aO _ _,yT fun j _=>Bd.zero.mono hB⟩
theorem pw4{D k m:Nat}(h:D≤2^k)(e:4*k+56=m):64*(2^50*(D*D*D*D))≤2^m:=by
 have f:=Nat.mul_le_mul (Nat.mul_le_mul (Nat.mul_le_mul h h) h) h;rw[←Nat.pow_add,←Nat.pow_add,←Nat.pow_add]at f;have j:=Nat.mul_le_mul (Nat.le_refl (2^6)) (Nat.mul_le_mul (Nat.le_refl (2^50)) f);rw[←Nat.pow_add,←Nat.pow_add]at j;rw[show m=6+(50+(k+k+k+k)) by omega];exact j
theorem pw8{D k m:Nat}(h:D≤256^k)(e:8*k=m):D≤2^m:=by
 rw[show(256:Nat)=2^8 from rfl,←Nat.pow_mul,e]at h;exact h
theorem pwn{x k m n:Nat}(h:x≤2^k)(e:k*n<m):x^n<2^m:=by
 refine Nat.lt_of_le_of_lt (Nat.pow_le_pow_left h n) ?_;rw[←Nat.pow_mul];exact Nat.pow_lt_pow_right (by decide) e
theorem sizes{D n sz:Nat}(hs:sz=100000)(e:D≤256^149)(f:n≤20):(64*(2^50*(D*D*D*D)))^n<2^sz:=
 pwn (pw4 (pw8 e (m:=1192) (by decide)) (m:=4824) (by decide)) (by omega)
/-- Positive semidefinite, and no refutation. -/
structure PSG (M:Nat→Nat→Rat) (q:Nat→Rat) (n:Nat):Prop where
 nn:∀z:Nat→Rat,0≤sm (fun i=>z i*sm (fun j=>M i j*z j) n) n
 ker:∀z:Nat→Rat,sm (fun i=>z i*sm (fun j=>M i j*z j) n) n=0→∀x:Nat→Rat,sm (fun i=>z i*sm (fun j=>M i j*x j) n) n=0
 nq:∀z:Nat→Rat,(∀i,0≤z i)→(∀x:Nat→Rat,sm (fun i=>z i*sm (fun j=>M i j*x j) n) n=0)→0≤sm (fun i=>z i*q i) n
theorem aRQ{M:Nat→Nat→Rat}{q:Nat→Rat}{n N:Nat}{TT:Nat→Nat→Nat→Rat}{BB:Nat→Nat→Nat}{CC:Nat→Nat}(hP:PSG M q n)(run:Run n (pH M q n) TT BB CC N){r:Nat}(hr:r<n)(hb0:∀v,mem n (BB 0) v↔(v=2*n∨(v<n∧v≠r)))(K:CC 0=wV n r)(hmin:∀k,k<n→nn (fun j=>pH M q n k (l7 n j)-pH M q n r (l7 n j)) (n+1) 0)(hno:∀i,i<n→¬0<TT N i (CC N)):False:=by
 have hs:=run.si N (Nat.le_refl _);have hc:=hs.hc;generalize hT:TT N=T at *;generalize hB:BB N=b at *;generalize hC:CC N=c at *;have hcb:¬mem n b c:=fun⟨i,i1,i2⟩=>hs.cb.nc i i1 i2
 have hcp:¬mem n b (wV n c):=fun⟨i,i1,i2⟩=>hs.cb.np hc i i1 i2
 have hpair:∀j,j<n→mem n b j→¬mem n b (n+j):=fun j G t u=>by
  obtain⟨i,i1,i2⟩:=t;obtain⟨k,U,k2⟩:=u;refine hs.cb.pr i k i1 U (by omega) ?_;rw[k2,i2];unfold wV;rw[if_pos G];omega
 let y:Nat→Rat:=fun m=>(if m=c then 1 else 0)-bX T b n c m
 have ey:∀m,y m=(if m=c then 1 else 0)-bX T b n c m:=fun m=>rfl
 have y0:∀m,0≤y m:=fun m=>by
  rw[ey];by_cases e:mem n b m
  ·obtain⟨i,i1,i2⟩:=e;rw[←i2,aPi hs i1,if_neg (fun e=>hcb ⟨i,i1,e⟩)];have:=hno i i1;grind
  ·rw[aFv e];split<;>grind
 have ysup:∀m,y m≠0→m=c∨mem n b m:=fun m h=>Classical.byContradiction fun t=>h (by
  rw[ey,aFv (fun u=>t (Or.inr u)),if_neg (fun u=>t (Or.inl u))];grind)
 have yeq:∀i,i<n→y i=sm (fun j=>M i j*y (n+j)) n+y (2*n):=fun i F=>by
  have t:=aMg F (hs.ke _ (fun i F=>aMu hs (k:=c) (by omega) F) i F);have u:sm (fun j=>M i j*(bX T b n c (n+j)-if n+j=c then 1 else 0)) n=-(sm (fun j=>M i j*y (n+j)) n):=by
   rw[←uB];exact aK fun j _=>by rw[ey];grind
  have L:bX T b n c (2*n+1)=0:=aFv (fun⟨i,i1,i2⟩=>by have:=hs.hb i i1;omega);rw[u,L,if_neg (show¬2*n+1=c by omega)]at t;rw[ey i,ey (2*n)];grind
 have X:∀k,k<2*n+2→(k<n∨k=2*n+1)→∀i,i<n→bX T b n k i=sm (fun j=>M i j*bX T b n k (n+j)) n+bX T b n k (2*n)+pH M q n i k:=fun k hk I i F=>by
  have t:=aMg F (hs.ke _ (fun i F=>aMu hs hk F) i F);have u:sm (fun j=>M i j*(bX T b n k (n+j)-if n+j=k then 1 else 0)) n=sm (fun j=>M i j*bX T b n k (n+j)) n:=aK fun j G=>by
   rw[if_neg (show¬n+j=k by omega)];grind
  have L:bX T b n k (2*n+1)=0:=aFv (fun⟨i,i1,i2⟩=>by have:=hs.hb i i1;omega);rw[u,L,if_neg (show¬2*n=k by omega)]at t;rcases I with I|I
  ·rw[if_neg (show¬2*n+1=k by omega)]at t;have:pH M q n i k=if i=k then 1 else 0:=by unfold pH;rw[if_pos I]
   rw[this];grind
  ·subst I;rw[if_pos rfl,if_neg (show¬i=2*n+1 by omega)]at t;rw[aCd];grind
 have cross:∀k,∀j,j<n→y (n+j)*bX T b n k j=0:=fun k j G=>by
  by_cases e:mem n b j
  ·have:y (n+j)=0:=Classical.byContradiction fun h=>by
    rcases ysup _ h with t|t
    ·refine hcp ?_;rw[←t];unfold wV;rw[if_neg (by omega),show n+j-n=j by omega];exact e
    ·exact hpair j G e t
   rw[this,Rat.zero_mul]
  ·rw[aFv e,Rat.mul_zero]
 have yy:∀j,j<n→y (n+j)*y j=0:=fun j G=>by
  by_cases e:y (n+j)=0
  ·rw[e,Rat.zero_mul]
  ·have:y j=0:=Classical.byContradiction fun h=>by
    rcases ysup _ e with t|t
    ·rcases ysup _ h with u|u
     ·omega
     ·refine hcp ?_;rw[←t];unfold wV;rw[if_neg (by omega),show n+j-n=j by omega];exact u
    ·rcases ysup _ h with u|u
     ·refine hcp ?_;rw[←u];unfold wV;rw[if_pos G,Nat.add_comm];exact t
     ·exact hpair j G u t
   rw[this,Rat.mul_zero]
 let z:Nat→Rat:=fun j=>y (n+j)
 have sumM:∀x:Nat→Rat,∀s:Rat,∀g:Nat→Rat,sm (fun i=>z i*(sm (fun j=>M i j*x j) n+s+g i)) n=sm (fun i=>z i*sm (fun j=>M i j*x j) n) n+s*sm z n+sm (fun i=>z i*g i) n:=fun x s g=>by
  rw[←mY,←aA1,←aA1];exact aK fun i _=>by grind
 have s0:sm (fun i=>z i*sm (fun j=>M i j*z j) n) n+y (2*n)*sm z n=0:=by
  have t:sm (fun i=>z i*y i) n=0:=dM fun j G=>yy j G
  have u:sm (fun i=>z i*y i) n=sm (fun i=>z i*(sm (fun j=>M i j*z j) n+y (2*n)+(fun _=>(0:Rat)) i)) n:=aK fun i F=>by
   rw[yeq i F];show _=z i*(_+0);rw[Rat.add_zero]
  rw[u,sumM,dM (f:=fun i=>z i*(fun _=>(0:Rat)) i) fun i _=>Rat.mul_zero _,Rat.add_zero]at t;exact t
 have z0:∀j,0≤z j:=fun j=>y0 _
 have sz:0≤sm z n:=pW fun i _=>z0 i
 have p1:=hP.nn z;have p2:0≤y (2*n)*sm z n:=Rat.mul_nonneg (y0 _) sz;have zero:sm (fun i=>z i*sm (fun j=>M i j*z j) n) n=0:=by grind
 have U:=hP.ker z zero;obtain⟨i0,O,i02⟩:=hs.last;by_cases hσ:sm z n=0
 ·
  have hz:∀j,j<n→z j=0:=aFX (fun i _=>z0 i) hσ;have yall:∀i,i<n→y i=y (2*n):=fun i F=>by
   rw[yeq i F,dM fun j G=>by rw[show y (n+j)=0 from hz j G,Rat.mul_zero],Rat.zero_add]
  have yc:y c=1:=by rw[ey,if_pos rfl,aFv hcb];grind
  have hcn:c<n:=Classical.byContradiction fun h=>by
   have:z (c-n)=0:=hz _ (by omega);have e:z (c-n)=y c:=by show y (n+(c-n))=y c;rw[show n+(c-n)=c by omega]
   rw[e,yc]at this;exact absurd this (by decide)
  have wb:∀i,i<n→i≠c→mem n b i:=fun i F hne=>by
   rcases ysup i (by rw[yall i F,←yall c hcn,yc];decide) with h|h
   ·exact absurd h hne
   ·exact h
  have zb:∀j,j<n→¬mem n b (n+j):=fun j G h=>by
   by_cases e:j=c
   ·refine hcp ?_;unfold wV;rw[if_pos hcn,Nat.add_comm,←e];exact h
   ·exact hpair j G (wb j G e) h
  have same:∀v,mem n b v↔(v=2*n∨(v<n∧v≠c)):=fun v=>by
   constructor
   ·intro h;by_cases e1:v<n
    ·exact Or.inr ⟨e1,fun e=>hcb (e▸h)⟩
    ·by_cases V:v<2*n
     ·exact absurd (show mem n b (n+(v-n)) by rw[show n+(v-n)=v by omega];exact h) (zb (v-n) (by omega))
     ·obtain⟨i,i1,i2⟩:=h;have:=hs.hb i i1;exact Or.inl (by omega)
   ·rintro(h|⟨t,u⟩)
    ·rw[h];exact hs.last
    ·exact wb v t u
  have diff:∀i,i<n→i≠c→psl (fun j=>pH M q n i (l7 n j)-pH M q n c (l7 n j)) (n+1) 0:=fun i F hne=>by
   obtain⟨m,m1,m2⟩:=wb i F hne;refine(hs.pos m1).congr_lt fun j G=>?_
   have J:l7 n j<n∨l7 n j=2*n+1:=by unfold l7;split<;>omega
   have a1:=X (l7 n j) (by omega) J i F;have a2:=X (l7 n j) (by omega) J c hcn;have zz:∀i',sm (fun Y=>M i' Y*bX T b n (l7 n j) (n+Y)) n=0:=fun i'=>dM fun Y hj'=>by rw[aFv (zb Y hj'),Rat.mul_zero]
   rw[zz,←m2,aPi hs m1]at a1;rw[zz,aFv hcb]at a2;rw[m2]at a1;grind
  have hcr:c=r:=Classical.byContradiction fun hne=>by
   have t:=(diff r hr (fun e=>hne e.symm)).add (hmin c hcn);obtain⟨k,_,_,L⟩:=t.zero;exact L (by grind)
  by_cases hN:N=0
  ·subst hN;rw[hC,hcr]at K;unfold wV at K;rw[if_pos hr]at K;omega
  ·refine run.distinct (i:=0) (j:=N) (by omega) (Nat.le_refl _) fun v=>?_
   rw[hb0,hB,same,hcr]
 ·have hσ':0<sm z n:=by grind
  have h0:∀k,k<2*n+2→(k<n∨k=2*n+1)→T i0 k*sm z n+sm (fun i=>z i*pH M q n i k) n=0:=fun k hk I=>by
   have t:sm (fun i=>z i*bX T b n k i) n=0:=dM fun j G=>cross k j G
   have u:sm (fun i=>z i*bX T b n k i) n=sm (fun i=>z i*(sm (fun j=>M i j*bX T b n k (n+j)) n+bX T b n k (2*n)+pH M q n i k)) n:=aK fun i F=>by rw[X k hk I i F]
   rw[u,sumM (fun j=>bX T b n k (n+j)) (bX T b n k (2*n)) (fun i=>pH M q n i k),U,Rat.zero_add,←i02,aPi hs O]at t;exact t
  obtain⟨j,_,j2,j3⟩:=(hs.pos O).ex;have J:l7 n j<n∨l7 n j=2*n+1:=by unfold l7;split<;>omega
  have e:=h0 (l7 n j) (by omega) J;rcases J with J|J
  ·have V:sm (fun i=>z i*pH M q n i (l7 n j)) n=z (l7 n j):=by
    rw[kP J fun i F hne=>by unfold pH;rw[if_pos J,if_neg hne,Rat.mul_zero]];unfold pH;rw[if_pos J,if_pos rfl,Rat.mul_one]
   rw[V]at e;have:=Rat.mul_pos j3 hσ';have:=z0 (l7 n j);grind
  ·rw[J]at e j3;have V:sm (fun i=>z i*pH M q n i (2*n+1)) n=sm (fun i=>z i*q i) n:=aK fun i _=>by rw[aCd]
   rw[V]at e;have:=Rat.mul_pos j3 hσ';have:=hP.nq z z0 U;grind
theorem aKg{M:Nat→Nat→Rat}{q:Nat→Rat}{n most:Nat}(z:PSG M q n):(zJ M q n most).2≠15:=by
 unfold zJ;cases hneg:ng q n 0
 ·rw[bG];exact show¬(0:Int)=15 by decide
 ·rw[bL];obtain⟨F,y,G⟩:=aOl (M:=M) hneg;have hm:=aEB (n:=n) (T:=pH M q n) n 0 0 (fun k I=>by omega);generalize hr:aAD (pH M q n) n n 0 0=r at *;intro h;have f:∀v,mem n (gN (fun j=>j) r (2*n)) v↔(v=2*n∨(v<n∧v≠r)):=fun v=>by
   constructor
   ·rintro⟨i,i1,i2⟩;by_cases e:i=r
    ·rw[e,aN]at i2;exact Or.inl i2.symm
    ·rw[aZ e]at i2;exact Or.inr ⟨by omega,by omega⟩
   ·rintro(h|⟨J,hb⟩)
    ·exact⟨r,y,by rw[aN,h]⟩
    ·exact⟨v,J,aZ hb⟩
  have bU:∀k,(∀j,j<k→aO5 n (sG n ⟨qC (pH M q n) r (2*n),gN (fun j=>j) r (2*n),wV n r⟩ j))→sel (sG n ⟨qC (pH M q n) r (2*n),gN (fun j=>j) r (2*n),wV n r⟩ k).t n (sG n ⟨qC (pH M q n) r (2*n),gN (fun j=>j) r (2*n),wV n r⟩ k).c n 0 none=none→False:=fun k u x=>by
   have run:=aJH (N:=k) (s:=⟨qC (pH M q n) r (2*n),gN (fun j=>j) r (2*n),wV n r⟩) F G u;refine aRQ z run y f rfl (fun k I=>hm k (by omega)) fun i L hp=>?_
   exact(aCj n 0 none x).2 i (by omega) (by omega) (aDX.2 hp)
  unfold lem at h;by_cases e:0=most
  ·rw[if_pos e]at h;exact absurd h (show¬(16:Int)=15 by decide)
  ·rw[if_neg e,if_neg (show¬r=2*n by omega)]at h;cases hs:sel (qC (pH M q n) r (2*n)) n (if r<n then r+n else r-n) n 0 none with
   |none=>exact bU 0 (fun j O=>by omega) hs
   |some K=>
    rw[hs]at h;obtain⟨k,u,x⟩:=aL5 most (qC (pH M q n) r (2*n)) (gN (fun j=>j) r (2*n)) K _ (0+1) hs h;exact bU k u x
theorem aEG{w b B:Nat}(h:w*(b+1)≤B)(hw:0<w):b+1≤B:=Nat.le_trans (Nat.le_mul_of_pos_left (b+1) hw) h
theorem aPe{f:Nat→Rat}{w b:Nat}(j:∀c,c<w→Bd b (f c))(hB:w*(b+1)≤1000000000)(hw:w≤1000)(K:Nat):∀(t i k:Nat),i+t=w→t<k→Bd (1+i*(b+1)) (sm f i)→t6 K (mp f w) k (sm f i) (i:Int)=some (sm f w)
 |0,i,k,u,e,h=>by
  obtain⟨q,rfl,_⟩:=aT e;have:i=w:=by omega
  subst this;simp only[t6,aO,dF (show¬(i:Int)<(i:Int) by omega),bG]
 |t+1,i,k,u,e,h=>by
  obtain⟨q,rfl,_⟩:=aT e;have s:=j i (by omega);have hb:=aEG hB (by omega);have hib:i*(b+1)≤w*(b+1):=Nat.mul_le_mul_right _ (by omega);have hs:1+i*(b+1)+b+1=1+(i+1)*(b+1):=by rw[Nat.add_mul];omega
  simp only[t6,aO,dT (show(i:Int)<(w:Int) by omega),bL,cD (f:=f) (show i<w by omega),oB,aBL h s (by omega) (by omega),qG (i:=i) (by omega)];exact aPe j hB hw K t (i+1) q (by omega) (by omega) (by simp only[sm];exact(h.add s).mono (by omega))
theorem aHt{f e:Nat→Rat}{w b b':Nat}(j:∀c,c<w→Bd b (f c))(he:∀c,c<w→Bd b' (e c))(hB:w*(b+b'+1)≤1000000000)(hw:w≤1000)(K:Nat):∀(t i k:Nat),i+t=w→t<k→tF K (mp f w) (mp e w) k (mp (fun c=>f c*e c) i) (i:Int)=some (mp (fun c=>f c*e c) w)
 |0,i,k,s,h=>by
  obtain⟨q,rfl,_⟩:=aT h;have:i=w:=by omega
  subst this;simp only[tF,aO,Int.min_self,dF (show¬(i:Int)<(i:Int) by omega),bG]
 |t+1,i,k,s,h=>by
  obtain⟨q,rfl,_⟩:=aT h;have hb:=aEG hB (by omega);simp only[tF,aO,Int.min_self,dT (show(i:Int)<(w:Int) by omega),bL,cD (f:=f) (show i<w by omega),cD (f:=e) (show i<w by omega),oB,yX (j i (by omega)) (he i (by omega)) (by omega) (by omega),apM (g:=fun c=>f c*e c) (i:=i) (by omega),qG (i:=i) (by omega)];exact aHt j he hB hw K t (i+1) q (by omega) (by omega)
theorem aEy{f e:Nat→Rat}{w b b':Nat}(h:∀c,c<w→Bd b (f c))(he:∀c,c<w→Bd b' (e c))(hB:w*(b+b'+1)≤1000000000)(hw:w≤1000){K:Nat}(j:w<K):wC K (mp f w) (mp e w)=some (sm (fun c=>f c*e c) w):=by
 have k:=aHt h he hB hw K w 0 K (by omega) j;have q:=aPe (f:=fun c=>f c*e c) (b:=b+b') (fun c hc=>(h c hc).mul (he c hc)) hB hw K w 0 K (by omega) j (Bd.zero.mono (by omega));simp only[Int.natCast_zero,wD,sm]at k q;simp only[wC,k,oB,yV,aCV,q,z5]
theorem aDV{g:Nat→Nat→Rat}{v:Nat→Rat}{h w b b':Nat}(q:qX h w b g)(hv:∀c,c<w→Bd b' (v c))(hB:w*(b+b'+1)≤1000000000)(hh:h≤1000)(hw:w≤1000){K:Nat}(s:w<K):∀(t i k:Nat),i+t=h→t<k→kX K (mx g h w) (mp v w) k (mp (yP g v w) i) (i:Int)=some (mp (yP g v w) h)
 |0,i,k,y,j=>by
  obtain⟨u,rfl,_⟩:=aT j;have:i=h:=by omega
  subst this;simp only[kX,iE,dF (show¬(i:Int)<(i:Int) by omega),bG]
 |t+1,i,k,y,j=>by
  obtain⟨u,rfl,_⟩:=aT j;have x:=aEy (f:=g i) (fun c hc=>q i c (by omega) hc) hv hB hw s;have e:sm (fun c=>g i c*v c) w=yP g v w i:=rfl;rw[e]at x;simp only[kX,iE,dT (show(i:Int)<(h:Int) by omega),bL,yO (g:=g) (w:=w) (show i<h by omega),oB,x,apM (g:=yP g v w) (i:=i) (by omega),qG (i:=i) (by omega)];exact aDV q hv hB hh hw s t (i+1) u (by omega) (by omega)
theorem aJO{g q:Nat→Nat→Rat}{h w v b b':Nat}(j:qX h w b g)(hq:qX w v b' q)(hB:w*(b'+b+1)≤1000000000)(hh:h≤1000)(hw:w≤1000)(hv:v≤1000){K:Nat}(u:w+v<K):∀(t i k:Nat),i+t=h→t<k→oP K (mx g h w) (mx (tr q) v w) k (mx (xE g q w) i v) (i:Int)=some (mx (xE g q w) h v)
 |0,i,k,x,e=>by
  obtain⟨s,rfl,_⟩:=aT e;have:i=h:=by omega
  subst this;simp only[oP,iE,dF (show¬(i:Int)<(i:Int) by omega),bG]
 |t+1,i,k,x,e=>by
  obtain⟨s,rfl,_⟩:=aT e;have f:=aDV (g:=tr q) (v:=g i) (h:=v) (fun k c e hc=>hq c k hc e) (fun c hc=>j i c (by omega) hc) hB hv hw (K:=K) (by omega) v 0 K (by omega) (by omega);simp only[Int.natCast_zero,wD]at f;have y:tC (mx (xE g q w) i v) [mp (yP (tr q) (g i) w) v]=some (mx (xE g q w) (i+1) v):=apM (g:=fun i=>mp (xE g q w i) v) (by omega);simp only[oP,iE,dT (show(i:Int)<(h:Int) by omega),bL,yO (g:=g) (w:=w) (show i<h by omega),oB,vZ,f,sZ,y,qG (i:=i) (by omega)];exact aJO j hq hB hh hw hv u t (i+1) s (by omega) (by omega)
theorem aRG{g q:Nat→Nat→Rat}{h w v b b':Nat}(j:qX h w b g)(hq:qX w v b' q)(hc:Cok h w)(f:Cok w v)(hB:w*(b'+b+1)≤1000000000)(hh:h≤64)(hw:w≤64)(hv:v≤64){K:Nat}(k:w+v+h<K):vY K (mx g h w) (mx q w v)=some (mx (xE g q w) h v,0):=by
 have e:=aJO j hq hB (show h≤1000 by omega) (show w≤1000 by omega) (show v≤1000 by omega) (K:=K) (by omega) h 0 K (by omega) (by omega);have z1:mx (xE g q w) 0 v=[]:=rfl;rw[z1]at e;simp only[Int.natCast_zero]at e;simp only[vY,aA8 hc hh hw (K:=K) (by omega),aA8 f hw hv (K:=K) (by omega),oB,Bool.not_true,bG,aCx hc,iE,nF (rfl:(w:Int)=(w:Int)),aHk f (show w≤100 by omega) (show v≤100 by omega) (K:=K) (by omega),e,vW]
theorem aRL{g:Nat→Nat→Rat}{h w b:Nat}(e:qX h w b g)(hc:Cok h w)(hb:2≤b)(hB:5^w*b≤200000000)(hh:h≤64)(hw:w≤64){K:Nat}(f:w+h<K):wO K (mx g h w)=some ((aG5 g h w:Int),0):=by
 simp only[wO,aA8 hc hh hw (K:=K) (by omega),oB,Bool.not_true,bG,aCx hc,aHK e hb (Nat.le_refl w) hB (show h≤1000 by omega) (show w≤1000 by omega) f,oJ,aG5]
theorem aEk(n:Nat):Cok n n:=fun h=>h
theorem aNl{g:Nat→Nat→Rat}{n:Nat}(e:n≤64){K:Nat}(f:n<K):uO K (mx g n n)=some true:=by
 simp only[uO,aA8 (aEk n) e e (K:=K) f,oB,bL,aCx (aEk n),iE,qT (rfl:(n:Int)=(n:Int))]
def aRl(g:Nat→Nat→Rat)(n:Nat):Prop:=∀i,i<n→∀k,k<i→g i k=g k i
theorem aJs{g:Nat→Nat→Rat}{n b i:Nat}(u:qX n n b g)(hb:b≤1073741824)(F:n≤64)(q:i<n)(K:Nat):∀(t k f:Nat),k+t=i→t<f→∃o:LR Bool Unit,gU K (mx g n n) (i:Int) (mp (g i) n) f (k:Int)=some o∧(o=.go ()∧(∀j,k≤j→j<i→g i j=g j i)∨o=.ret false∧¬aRl g n)
 |0,k,f,G,x=>by
  obtain⟨y,rfl,_⟩:=aT x;have:k=i:=by omega
  subst this;exact⟨.go (),by simp only[gU,dF (show¬(k:Int)<(k:Int) by omega),bG],.inl ⟨rfl,fun j z s=>absurd s (by omega)⟩⟩
 |t+1,k,f,G,x=>by
  obtain⟨y,rfl,_⟩:=aT x;have hkn:k<n:=by omega
  by_cases he:g i k=g k i
  ·obtain⟨o,z,s⟩:=aJs u hb F q K t (k+1) y (by omega) (by omega);refine⟨o,?_,?_⟩
   ·simp only[gU,dT (show(k:Int)<(i:Int) by omega),bL,cD (f:=g i) hkn,yO (g:=g) (w:=n) hkn,cD (f:=g k) q,oB,aCe (u i k q hkn) (u k i hkn q) hb hb,decide_eq_true he,Bool.not_true,bG,qG (i:=k) (by omega),z]
   ·rcases s with⟨s,I⟩|s
    ·exact .inl ⟨s,fun j J hji=>by
      by_cases e:j=k
      ·rw[e];exact he
      ·exact I j (by omega) hji⟩
    ·exact .inr s
  ·exact⟨.ret false,by simp only[gU,dT (show(k:Int)<(i:Int) by omega),bL,cD (f:=g i) hkn,yO (g:=g) (w:=n) hkn,cD (f:=g k) q,oB,aCe (u i k q hkn) (u k i hkn q) hb hb,decide_eq_false he,Bool.not_false],.inr ⟨rfl,fun h=>he (h i q k (by omega))⟩⟩
def aA9(g:Nat→Nat→Rat)(n i:Nat):List (List Rat):=([]:List Rat)::mp (fun i=>mp (g i) n) i
theorem aMX{g:Nat→Nat→Rat}{n b:Nat}(z:qX n n b g)(hb:b≤1073741824)(F:n≤64){K:Nat}(J:n<K):∀(t i k:Nat),i+t=n→t<k→(∀q,q<i→∀k,k<q→g q k=g k q)→∃o,f8 K (mx g n n) k (mp (fun j=>if j<i then j+1 else 0) n) (aA9 g n i) (i:Int)=some o∧(o=.go (mp (fun j=>j+1) n,aA9 g n n)∧aRl g n∨o=.ret false∧¬aRl g n)
 |0,i,k,L,s,hs=>by
  obtain⟨G,rfl,_⟩:=aT s;have:i=n:=by omega
  subst this;refine⟨.go (mp (fun j=>if j<i then j+1 else 0) i,aA9 g i i),by simp only[f8,iE,dF (show¬(i:Int)<(i:Int) by omega),bG],.inl ⟨?_,hs⟩⟩;rw[bW (f:=fun j=>if j<i then j+1 else 0) (g:=fun j=>j+1) fun j I=>if_pos I]
 |t+1,i,k,L,s,hs=>by
  obtain⟨G,rfl,_⟩:=aT s;have u:i<n:=by omega
  obtain⟨o,y,x⟩:=aJs z hb F u K i 0 K (by omega) (by omega);simp only[Int.natCast_zero]at y;rcases x with⟨rfl,x⟩|⟨rfl,x⟩
  ·obtain⟨o,O,U⟩:=aMX z hb F J t (i+1) G (by omega) (by omega) (fun q V k s=>by
    by_cases e:q=i
    ·subst e;exact x k (Nat.zero_le _) s
    ·exact hs q (by omega) k s)
   refine⟨o,?_,U⟩;have X:tC ([]:List Rat) (mp (g i) n)=some (mp (g i) n):=by rw[aBx (by rw[aO,List.length_nil];omega),List.nil_append]
   have Y:mp (gN (fun j=>if j<i then j+1 else 0) i (aA9 g n i).length) n=mp (fun j=>if j<i+1 then j+1 else 0) n:=bW fun j I=>by
    by_cases e:j=i
    ·subst e;rw[aN,if_pos (by omega)];unfold aA9;rw[List.length_cons,aO]
    ·rw[aZ e];by_cases h:j<i
     ·rw[if_pos h,if_pos (by omega)]
     ·rw[if_neg h,if_neg (by omega)]
   have e6:aA9 g n i++[mp (g i) n]=aA9 g n (i+1):=by unfold aA9;rw[aAL];rfl
   simp only[f8,iE,dT (show(i:Int)<(n:Int) by omega),bL,yO (g:=g) (w:=n) u,oB,y,qR,dR,X,cD (f:=fun j=>if j<i then j+1 else 0) u,vA (f:=fun j=>if j<i then j+1 else 0) u,qG (i:=i) (by omega),Y,e6,O]
  ·exact⟨.ret false,by simp only[f8,iE,dT (show(i:Int)<(n:Int) by omega),bL,yO (g:=g) (w:=n) u,oB,y],.inr ⟨rfl,x⟩⟩
theorem aKv{ι:Nat→Nat}{g:Nat→Nat→Rat}{n b i p:Nat}{v:Rat}(y:∀c,c<n→Bd b (g i c))(e:∀c,c<n→Bd b (g p c))(hv:Bd (b+b) v)(hb:b*5≤1073741824)(L:n≤1000)(s:i<n)(hp:p<n)(hne:p≠i)(q:v≠0)(K:Nat):∀(t c k:Nat) (pool:List (List Rat)),c+t=n→t<k→Rep ι pool (gN g i (mid (clr g i p v) (g i) c)) n n→
  ∃pool',Rep ι pool' (gN g i (clr g i p v)) n n∧dG K (ι p) (ι i) v k pool (c:Int)=some pool'
 |0,c,k,pool,hc,u,r=>by
  have:c=n:=by omega
  subst this;obtain⟨z,rfl,_⟩:=aT u;refine⟨pool,r.congr fun j x V O=>?_,?_⟩
  ·by_cases he:j=i
   ·rw[he,aN,aN,aFN O]
   ·rw[aZ he,aZ he]
  ·simp only[dG,r.el i s,aO,dF (show¬(c:Int)<(c:Int) by omega),bG]
 |t+1,c,k,pool,hc,u,r=>by
  obtain⟨z,rfl,_⟩:=aT u;have hcw:c<n:=by omega
  have F:=r.el i s;rw[aN]at F;have G:=r.el p hp;rw[aZ hne]at G;have I:=r.set s (gN (mid (clr g i p v) (g i) c) c (clr g i p v c));rw[aIN,aAn]at I;obtain⟨pool',U,J⟩:=aKv y e hv hb L s hp hne q K t (c+1) z _ (by omega) (by omega) I;refine⟨pool',U,?_⟩;rw[←aAn]at J;have X:v*g p c=v*g p c:=rfl;simp only[dG,F,G,aO,dT (show(c:Int)<(n:Int) by omega),bL,kI hv (by omega),nT (fun h=>q (zC.1 h)),cD (f:=mid (clr g i p v) (g i) c) hcw,aK7,cD (f:=g p) hcw,yX hv (e c hcw) (by omega) (by omega),aBF (y c hcw) (hv.mul (e c hcw)) (by omega) (by omega),oB,vA (f:=mid (clr g i p v) (g i) c) hcw,qG (i:=c) (by omega)];exact J
def epr(g:Nat→Nat→Rat)(p j i c:Nat):Rat:=if p<i∧i<j then g i c-g i p/g p p*g p c else g i c
theorem aF8{ι:Nat→Nat}{g:Nat→Nat→Rat}{n b p:Nat}(u:qX n n b g)(hb:b*5≤1073741824)(G:n≤1000)(hp:p<n)(z:∀i c,i<n→c<p→p≤i→g i c=0){y:List (List Rat)}(F:y.length=n-(p+1)){K:Nat}(Y:n<K):∀(t j k:Nat) (pool:List (List Rat)),p+1+j+t=n→t<k→Rep ι pool (epr g p (p+1+j)) n n→
  ∃pool',Rep ι pool' (est g p) n n∧gQ K (mp ι n) (p:Int) (ι p) ((p+1:Nat):Int) y k pool (j:Int)=some pool'
 |0,j,k,pool,hj,I,r=>by
  obtain⟨J,rfl,_⟩:=aT I;refine⟨pool,r.congr fun i c L hc=>?_,?_⟩
  ·unfold epr est;by_cases h:p<i
   ·rw[if_pos ⟨h,by omega⟩,if_pos h]
   ·rw[if_neg (by omega),if_neg h]
  ·simp only[gQ,F,dF (show¬(j:Int)<((n-(p+1):Nat):Int) by omega),bG]
 |t+1,j,k,pool,hj,I,r=>by
  obtain⟨J,rfl,_⟩:=aT I;have hin:p+1+j<n:=by omega
  have hrd:bR ((mp ι n).drop ((p+1:Nat):Int).toNat) (j:Int)=some (ι (p+1+j)):=rdG (by
   rw[List.getElem?_drop,show((p+1:Nat):Int).toNat+j=p+1+j by omega,wJ hin])
  have O:=r.el (p+1+j) hin;have e:epr g p (p+1+j) (p+1+j)=g (p+1+j):=by funext c;unfold epr;rw[if_neg (by omega)]
  have s:epr g p (p+1+j) p=g p:=by funext c;unfold epr;rw[if_neg (by omega)]
  have e2:=r.el p hp;rw[e]at O;rw[s]at e2;have hv:=(u (p+1+j) p hin hp).div (u p p hp hp);have next:∀pool',Rep ι pool' (gN (epr g p (p+1+j)) (p+1+j) (clr g (p+1+j) p (g (p+1+j) p/g p p))) n n→Rep ι pool' (epr g p (p+1+(j+1))) n n:=fun pool' r'=>r'.congr fun i c L hc=>by
   by_cases he:i=p+1+j
   ·subst he;rw[aN];unfold clr epr;rw[if_pos ⟨by omega,by omega⟩]
   ·rw[aZ he];unfold epr;by_cases h:p<i∧i<p+1+j
    ·rw[if_pos h,if_pos ⟨h.1,by omega⟩]
    ·rw[if_neg h,if_neg (by omega)]
  simp only[gQ,F,dT (show(j:Int)<((n-(p+1):Nat):Int) by omega),bL,hrd,oB,O,e2,cD (f:=g (p+1+j)) hp,cD (f:=g p) hp,aBw (u (p+1+j) p hin hp) (u p p hp hp) (by omega) (by omega)];by_cases x:g (p+1+j) p/g p p=0
  ·
   obtain⟨pool',U,V⟩:=aF8 u hb G hp z F Y t (j+1) J pool (by omega) (by omega) (next pool (r.congr fun i c L hc=>by
    by_cases he:i=p+1+j
    ·subst he;rw[aN,e];unfold clr;rw[x];grind
    ·rw[aZ he]))
   refine⟨pool',U,?_⟩;obtain⟨K',X⟩:∃K',K=K'+1:=⟨K-1,by omega⟩;have e3:dG K (ι p) (ι (p+1+j)) (g (p+1+j) p/g p p) K pool (p:Int)=some pool:=by
    rw[show dG K (ι p) (ι (p+1+j)) (g (p+1+j) p/g p p) K=dG K (ι p) (ι (p+1+j)) (g (p+1+j) p/g p p) (K'+1) by rw[←X]];simp only[dG,O,aO,dT (show(p:Int)<(n:Int) by omega),bL,kI hv (by omega),nF (zC.2 x),bG,oB]
   rw[e3];simp only[oB,nM,qG (i:=j) (by omega)];exact V
  ·obtain⟨q,h3,h4⟩:=aKv (ι:=ι) (g:=epr g p (p+1+j)) (n:=n) (b:=b) (i:=p+1+j) (p:=p) (v:=g (p+1+j) p/g p p) (fun c hc=>by rw[e];exact u _ c hin hc) (fun c hc=>by rw[s];exact u _ c hp hc) hv hb G hin hp (by omega) x K (n-p) p K pool (by omega) (by omega) (r.congr fun i c L hc=>by
    by_cases he:i=p+1+j
    ·subst he;rw[aN,e];unfold mid;split
     ·rename_i hcp;unfold clr;rw[e,s,z _ c hin hcp (by omega),z p c hp hcp (by omega)];grind
     ·rfl
    ·rw[aZ he])
   have e5:clr (epr g p (p+1+j)) (p+1+j) p (g (p+1+j) p/g p p)=clr g (p+1+j) p (g (p+1+j) p/g p p):=by
    funext c;unfold clr;rw[e,s]
   rw[e5]at h3;obtain⟨pool',U,V⟩:=aF8 u hb G hp z F Y t (j+1) J q (by omega) (by omega) (next q h3);refine⟨pool',U,?_⟩;simp only[h4,oB,nM,qG (i:=j) (by omega)];exact V
theorem aTR{g:Nat→Nat→Rat}{n b k:Nat}(e:qX n n b g)(hb:1≤b)(f:k<n):qX n n (5*b) (est g k):=fun i c h hc=>by
 unfold est;split
 ·exact((e i c h hc).sub (((e i k h f).div (e k k f f)).mul (e k c f hc))).mono (by omega)
 ·exact(e i c h hc).mono (by omega)
theorem aO9{g:Nat→Nat→Rat}{n b:Nat}(e:qX n n b g)(hb:2≤b):∀k,k≤n→qX n n (5^k*b) (ela g k)
 |0,_=>by simpa [ela] using e
 |k+1,h=>by
  have f:5^(k+1)*b=5*(5^k*b):=by rw[Nat.pow_succ,Nat.mul_comm (5^k) 5,Nat.mul_assoc]
  rw[f];exact aTR (aO9 e hb k (by omega)) (by have:=aGc k b hb;omega) (by omega)
theorem aOq{a:Rat}:0<a.num↔0<a:=by
 have f:=Rat.num_nonneg (q:=a);have j:=Rat.num_eq_zero (q:=a);constructor
 ·intro h;have k:0≤a:=f.1 (by omega);have s:a≠0:=fun e=>by have:=j.2 e;omega
  grind
 ·intro h;have k:0≤a.num:=f.2 (by grind);have s:a.num≠0:=fun e=>by have:=j.1 e;grind
  omega
theorem aJx{a:Rat}:a.num.sign≤0↔¬0<a:=by
 rw[←aOq];constructor
 ·intro h e;have:=Int.sign_eq_one_of_pos e;omega
 ·intro h;rcases Int.lt_trichotomy a.num 0 with e|e|e
  ·rw[Int.sign_eq_neg_one_of_neg e];omega
  ·rw[e];decide
  ·exact absurd e h
theorem aMz{ι:Nat→Nat}{g:Nat→Nat→Rat}{n b:Nat}(x:qX n n b g)(hb:2≤b)(hB:5^n*b≤200000000)(I:n≤64){K:Nat}(y:n<K):∀(t p k:Nat) (pool:List (List Rat)),p+t=n→t<k→(∀j,j<p→0<ela g j j j)→Rep ι pool (ela g p) n n→
  ∃o:LR Bool Unit,iJ K (mp ι n) k (mp ι n) pool (p:Int)=some o∧(o=.go ()∧aFC g n∨o=.ret false∧¬aFC g n)
 |0,p,k,pool,hp,u,hpos,r=>by
  obtain⟨z,rfl,_⟩:=aT u;have:p=n:=by omega
  subst this;exact⟨.go (),by simp only[iJ,aO,dF (show¬(p:Int)<(p:Int) by omega),bG],.inl ⟨rfl,hpos⟩⟩
 |t+1,p,k,pool,hp,u,hpos,r=>by
  obtain⟨z,rfl,_⟩:=aT u;have s:p<n:=by omega
  have hgb:=aO9 x hb p (by omega);have V:5^p*b≤200000000:=Nat.le_trans (Nat.mul_le_mul_right b (Nat.pow_le_pow_right (by omega) (show p≤n by omega))) hB;simp only[iJ,aO,dT (show(p:Int)<(n:Int) by omega),bL,cD (f:=ι) s,oB,r.el p s,cD (f:=ela g p p) s,kI (hgb p p s s) (by omega)];by_cases q:0<ela g p p p
  ·have hsl:=aUu (f:=fun i=>mp (ela g p i) n) (n:=n) (i:=p+1) (by omega);have hlen:(mp (fun j=>mp (ela g p (p+1+j)) n) (n-(p+1))).length=n-(p+1):=aO _ _;obtain⟨pool',J,F⟩:=aF8 (ι:=ι) (g:=ela g p) (n:=n) (b:=5^p*b) (p:=p) hgb (by omega) (by omega) s (fun i c L hc hpi=>aKD p (fun j G=>by have:=hpos j G;grind) i c hc (by omega)) hlen y (n-(p+1)) 0 K pool (by omega) (by omega) (r.congr fun i c L hc=>by
    unfold epr;rw[if_neg (by omega)])
   obtain⟨o,O,U⟩:=aMz x hb hB I y t (p+1) z pool' (by omega) (by omega) (fun j G=>by
    by_cases e:j=p
    ·subst e;exact q
    ·exact hpos j (by omega)) J
   refine⟨o,?_,U⟩;simp only[Int.natCast_zero]at F;have hsl':slL (mx (ela g p) n n) ((p+1:Nat):Int) (n:Int)=some (mp (fun j=>mp (ela g p (p+1+j)) n) (n-(p+1))):=hsl;simp only[dF (fun h=>aJx.1 h q),bG,qG (i:=p) (by omega),oB,r.sel,iE,hsl',F,qQ];exact O
  ·exact⟨.ret false,by simp only[dT (aJx.2 q),bL],.inr ⟨rfl,fun h=>q (h p s)⟩⟩
theorem aKb{g:Nat→Nat→Rat}{n b:Nat}(q:qX n n b g)(hb:2≤b)(hB:5^n*b≤200000000)(f:n≤64){K:Nat}(G:n+1<K):∃o,sF K (mx g n n)=some o∧(o=true↔aRl g n∧aFC g n):=by
 have I:b≤5^n*b:=Nat.le_mul_of_pos_left b (Nat.pow_pos (by omega));obtain⟨J,a1,a2⟩:=aMX q (by omega) f (K:=K) (by omega) n 0 K (by omega) (by omega) (fun L k=>absurd k (by omega));simp only[Int.natCast_zero]at a1;have u:mp (fun j=>if j<0 then j+1 else 0) n=mp (fun _=>(0:Nat)) n:=bW fun j _=>if_neg (by omega)
 have x:aA9 g n 0=[[]]:=rfl;rw[u,x]at a1;simp only[sF,aNl f (K:=K) (by omega),oB,Bool.not_true,bG,iE,aC4 (z:=(0:Nat)) (n:=n) (by omega),a1];rcases a2 with⟨rfl,hs⟩|⟨rfl,hs⟩
 ·have y:Rep (fun j=>j+1) (aA9 g n n) g n n:=⟨fun i j _ _ e=>by omega,fun i s=>by unfold aA9;rw[List.length_cons,aO];omega,fun i s=>by
   unfold aA9;rw[List.getD_eq_getElem?_getD,List.getElem?_cons_succ,wJ s];rfl⟩
  obtain⟨O,t,b2⟩:=aMz q hb hB f (K:=K) (by omega) n 0 K (aA9 g n n) (by omega) (by omega) (fun j F=>absurd F (by omega)) y;simp only[Int.natCast_zero]at t;simp only[rN,t,oB];rcases b2 with⟨rfl,hp⟩|⟨rfl,hp⟩
  ·exact⟨true,by simp only[rI],⟨fun _=>⟨hs,hp⟩,fun _=>rfl⟩⟩
  ·exact⟨false,rfl,⟨fun h=>(by cases h),fun h=>absurd h.2 hp⟩⟩
 ·exact⟨false,rfl,⟨fun h=>(by cases h),fun h=>absurd h.1 hs⟩⟩
theorem aCD{x:Rat}(h:0<x):x≠0:=fun e=>by rw[e]at h;exact absurd h Rat.lt_irrefl
theorem aOw{x:Rat}(h:x<0):x≠0:=fun e=>by rw[e]at h;exact absurd h Rat.lt_irrefl
structure SX (n C:Nat) (Z:Nat→Nat→Rat) (c:Nat→Rat) (T:Nat→Nat→Rat) (g:Nat→Rat) (b:Nat→Nat):Prop where
 ti:TI n (C+1) Z T b
 lt:∀i,i<n→b i<C
 ke:KE n (C+1) Z T
 gb:∀i,i<n→g (b i)=0
 gc:∃l:Nat→Rat,∀k,k<C+1→g k=c k-sm (fun j=>l j*Z j k) n
def gpv(g:Nat→Rat)(T:Nat→Nat→Rat)(r col k:Nat):Rat:=g k-g col*(T r k/T r col)
theorem TI.row{n w:Nat}{Z T:Nat→Nat→Rat}{b:Nat→Nat}(h:TI n w Z T b){r:Nat}(hr:r<n):∃E:Nat→Rat,∀k,k<w→T r k=sm (fun j=>E j*Z j k) n:=by
 obtain⟨E,e⟩:=h.ex;exact⟨E r,fun k f=>by rw[e r k hr f,vX];exact aK fun j _=>Rat.mul_comm _ _⟩
section
variable {n C:Nat} {Z T T':Nat→Nat→Rat} {c g g':Nat→Rat} {b b':Nat→Nat}
theorem SX.pivot(h:SX n C Z c T g b){r col:Nat}(hr:r<n)(hc:col<C)(hp:T r col≠0):SX n C Z c (qC T r col) (gpv g T r col) (gN b r col):=by
 refine⟨h.ti.pivot hr (by omega) hp,fun i f=>?_,h.ke.pivot hr hp,fun i f=>?_,?_⟩
 ·by_cases e:i=r
  ·rw[e,aN];exact hc
  ·rw[aZ e];exact h.lt i f
 ·unfold gpv;by_cases e:i=r
  ·rw[e,aN,Rat.div_def,Rat.mul_inv_cancel _ hp];grind
  ·have s:T r (b i)=0:=by rw[h.ti.un r i hr f,if_neg fun h=>e h.symm]
   rw[aZ e,s,h.gb i f];grind
 ·obtain⟨l,t⟩:=h.gc;obtain⟨E,u⟩:=h.ti.row hr;refine⟨fun j=>l j+(g col/T r col)*E j,fun k q=>?_⟩;unfold gpv;have x:sm (fun j=>(l j+(g col/T r col)*E j)*Z j k) n=sm (fun j=>l j*Z j k) n+(g col/T r col)*sm (fun j=>E j*Z j k) n:=by
   rw[←mY,←aA1];exact aK fun j _=>by grind
  rw[x,t k q,u k q];grind
def tT(T:Nat→Nat→Rat)(b:Nat→Nat)(n k j:Nat):Rat:=(if j=k then 1 else 0)-sm (fun i=>if b i=j then T i k else 0) n
theorem zE{f:Nat→Rat}{k w:Nat}(h:k<w)(hb:∀i,i<n→b i<w):sm (fun j=>f j*tT T b n k j) w=f k-sm (fun i=>f (b i)*T i k) n:=by
 have q:sm (fun j=>f j*tT T b n k j) w=sm (fun j=>(if j=k then f k else 0)-1*sm (fun i=>if b i=j then f (b i)*T i k else 0) n) w:=aK fun j _=>by
  unfold tT;have:sm (fun i=>if b i=j then f (b i)*T i k else 0) n=f j*sm (fun i=>if b i=j then T i k else 0) n:=by
   rw[←mY];refine aK fun i _=>?_
   by_cases e:b i=j
   ·rw[if_pos e,if_pos e,e]
   ·rw[if_neg e,if_neg e,Rat.mul_zero]
  rw[this];by_cases e:j=k
  ·rw[if_pos e,if_pos e,e];grind
  ·rw[if_neg e,if_neg e];grind
 rw[q,w7,kP h fun j _ hne=>if_neg hne,if_pos rfl,wE,Rat.one_mul];congr 1;refine aK fun i s=>?_
 rw[kP (hb i s) fun j _ hne=>if_neg fun e=>hne e.symm,if_pos rfl]
theorem TI.dkill{w:Nat}(h:TI n w Z T b){k i:Nat}(q:k<w)(f:i<n):sm (fun j=>T i j*tT T b n k j) w=0:=by
 rw[zE q h.lt,kP f fun j s hne=>by rw[h.un i j f s,if_neg fun e=>hne e.symm,Rat.zero_mul],h.un i i f f,if_pos rfl];grind
theorem SX.dZ(h:SX n C Z c T g b){k i:Nat}(f:k<C+1)(e:i<n):sm (fun j=>Z i j*tT T b n k j) (C+1)=0:=
 h.ke _ (fun i e=>h.ti.dkill f e) i e
theorem SX.gdot(h:SX n C Z c T g b){x:Nat→Rat}(e:∀i,i<n→sm (fun j=>Z i j*x j) (C+1)=0):sm (fun j=>g j*x j) (C+1)=sm (fun j=>c j*x j) (C+1):=by
 obtain⟨l,k⟩:=h.gc;have q:sm (fun j=>g j*x j) (C+1)=sm (fun j=>c j*x j-1*sm (fun i=>l i*(Z i j*x j)) n) (C+1):=aK fun j s=>by
  rw[k j s];have:sm (fun i=>l i*(Z i j*x j)) n=sm (fun i=>l i*Z i j) n*x j:=by
   rw[←y3];exact aK fun i _=>by grind
  rw[this];grind
 rw[q,w7,wE,dM (f:=fun j=>sm (fun i=>l j*(Z j i*x i)) (C+1)) fun i t=>by rw[mY,e i t,Rat.mul_zero]];grind
theorem SX.cost(h:SX n C Z c T g b)(s:SX n C Z c T' g' b'){k:Nat}(f:k<C+1):g' k-sm (fun i=>g' (b i)*T i k) n=g k:=by
 have j:=s.gdot (x:=tT T b n k) fun i e=>h.dZ f e
 have q:=h.gdot (x:=tT T b n k) fun i e=>h.dZ f e
 rw[zE f h.ti.lt]at j q;rw[j,←q,dM fun i e=>by rw[h.gb i e,Rat.zero_mul]];grind
theorem SX.zrow(h:SX n C Z c T g b){x:Nat→Rat}(e:∀i,i<n→sm (fun j=>Z i j*x j) (C+1)=0){i:Nat}(f:i<n):sm (fun j=>T i j*x j) (C+1)=0:=by
 obtain⟨E,k⟩:=h.ti.row f;have q:sm (fun j=>T i j*x j) (C+1)=sm (fun j=>sm (fun m=>E m*(Z m j*x j)) n) (C+1):=aK fun j s=>by
  rw[k j s,←y3];exact aK fun m _=>by grind
 rw[q,wE];exact dM fun m hm=>by rw[mY,e m hm,Rat.mul_zero]
theorem SX.same(h:SX n C Z c T g b)(q:SX n C Z c T' g' b')(hb:∀i,i<n→b i=b' i){k:Nat}(s:k<C+1):g' k=g k∧∀i,i<n→T' i k=T i k:=by
 constructor
 ·rw[←h.cost q s,dM fun i f=>by rw[hb i f,q.gb i f,Rat.zero_mul]];grind
 ·intro i f;have e:=q.zrow (x:=tT T b n k) (fun i f=>h.dZ s f) f;rw[zE s h.ti.lt,kP f fun j t hne=>by rw[hb j t,q.ti.un i j f t,if_neg fun e=>hne e.symm,Rat.zero_mul],hb i f,q.ti.un i i f f,if_pos rfl]at e;grind
end
structure aDN (n C:Nat) (Z:Nat→Nat→Rat) (c:Nat→Rat) (TT:Nat→Nat→Nat→Rat) (GG:Nat→Nat→Rat) (BB:Nat→Nat→Nat) (R S:Nat→Nat) (N:Nat):Prop where
 sx:∀k,k≤N→SX n C Z c (TT k) (GG k) (BB k)
 fs:∀k,k≤N→∀i,i<n→0≤TT k i C
 rl:∀k,k<N→R k<n
 sl:∀k,k<N→S k<C
 neg:∀k,k<N→GG k (S k)<0
 fst:∀k,k<N→∀j,j<S k→0≤GG k j
 pos:∀k,k<N→0<TT k (R k) (S k)
 min:∀k,k<N→∀i,i<n→0<TT k i (S k)→TT k (R k) C/TT k (R k) (S k)<TT k i C/TT k i (S k)∨(TT k (R k) C/TT k (R k) (S k)=TT k i C/TT k i (S k)∧BB k (R k)≤BB k i)
 nt:∀k,k<N→TT (k+1)=qC (TT k) (R k) (S k)
 ng:∀k,k<N→GG (k+1)=gpv (GG k) (TT k) (R k) (S k)
 nb:∀k,k<N→BB (k+1)=gN (BB k) (R k) (S k)
theorem aIw{P:Nat→Prop}{a:Nat}:∀g,P a→¬P (a+g)→∃u,a≤u∧u<a+g∧P u∧¬P (u+1)
 |0,h,f=>absurd h f
 |g+1,h,f=>by
  by_cases e:P (a+g)
  ·exact⟨a+g,by omega,by omega,e,f⟩
  ·obtain⟨u,j,s,k,q⟩:=aIw g h e;exact⟨u,j,by omega,k,q⟩
theorem aQu{P:Nat→Prop}:∀m,(∀j,P j→j<m)→(∃j,P j)→∃t,P t∧∀j,P j→j≤t
 |0,h,⟨j,f⟩=>absurd (h j f) (by omega)
 |m+1,h,k=>by
  by_cases e:P m
  ·exact⟨m,e,fun j f=>by have:=h j f;omega⟩
  ·exact aQu m (fun j f=>by
    have:=h j f;have:j≠m:=fun q=>e (q▸f)
    omega) k
theorem aHp{f:Nat→Rat}:∀{n:Nat},0<sm f n→∃i,i<n∧0<f i
 |0,h=>absurd h (Rat.lt_irrefl)
 |n+1,h=>by
  by_cases e:0<f n
  ·exact⟨n,by omega,e⟩
  ·have k:=Rat.not_lt.1 e;have q:0<sm f n+f n:=h;obtain⟨i,s,j⟩:=aHp (f:=f) (n:=n) (by grind);exact⟨i,by omega,j⟩
section
variable {n C N:Nat} {Z:Nat→Nat→Rat} {c:Nat→Rat} {TT:Nat→Nat→Nat→Rat} {GG:Nat→Nat→Rat} {BB:Nat→Nat→Nat} {R S:Nat→Nat}
theorem aDN.up(h:aDN n C Z c TT GG BB R S N){k:Nat}(f:k<N):GG k C≤GG (k+1) C∧(GG k C=GG (k+1) C→TT k (R k) C=0):=by
 have j:=h.neg k f;have q:=h.pos k f;have t:=h.fs k (by omega) (R k) (h.rl k f);have u:0≤TT k (R k) C/TT k (R k) (S k):=by rw[Rat.div_def];exact Rat.mul_nonneg t (Rat.le_of_lt (Rat.inv_pos.2 q))
 have e:GG (k+1) C=GG k C-GG k (S k)*(TT k (R k) C/TT k (R k) (S k)):=by rw[h.ng k f];rfl
 rw[e];constructor
 ·have:=Rat.mul_nonneg (show 0≤-(GG k (S k)) by grind) u;grind
 ·intro y;have x:GG k (S k)*(TT k (R k) C/TT k (R k) (S k))=0:=by grind
  have z:=aCD q;rcases Rat.mul_eq_zero.1 x with s|s
  ·rw[s]at j;exact absurd j Rat.lt_irrefl
  ·grind
theorem aDN.ups(h:aDN n C Z c TT GG BB R S N)(p:Nat):∀g,p+g≤N→GG p C≤GG (p+g) C
 |0,_=>Rat.le_refl
 |g+1,e=>Rat.le_trans (h.ups p g (by omega)) (h.up (show p+g<N by omega)).1
theorem aDN.flat(h:aDN n C Z c TT GG BB R S N){p q k:Nat}(j:p≤k)(s:k<q)(hq:q≤N)(he:GG p C=GG q C):TT k (R k) C=0:=by
 have a:=h.ups p (k-p) (by omega);have b:=h.ups (k+1) (q-(k+1)) (by omega);rw[show p+(k-p)=k by omega]at a;rw[show k+1+(q-(k+1))=q by omega]at b;obtain⟨e,f⟩:=h.up (show k<N by omega);exact f (Rat.le_antisymm e (by rw[←he]at b;exact Rat.le_trans b a))
theorem aDN.still(h:aDN n C Z c TT GG BB R S N){p q:Nat}(hq:q≤N)(he:GG p C=GG q C){i:Nat}:∀g,p+g≤q→TT (p+g) i C=TT p i C
 |0,_=>rfl
 |g+1,j=>by
  rw[←h.still hq he g (by omega)];have f:=h.flat (k:=p+g) (by omega) (by omega) hq he;show TT (p+g+1) i C=_;rw[h.nt (p+g) (by omega)];unfold qC;rw[f];by_cases e:i=R (p+g)
  ·rw[if_pos e,e,f];grind
  ·rw[if_neg e];grind
theorem aDN.zero(h:aDN n C Z c TT GG BB R S N){p q u v i:Nat}(hq:q≤N)(he:GG p C=GG q C)(hpu:p≤u)(hu:u≤q)(hpv:p≤v)(hv:v≤q)(hne:BB u i≠BB v i):TT p i C=0:=by
 have key:∀x y,p≤x→x≤y→y≤q→BB x i≠BB y i→TT p i C=0:=fun x y F G I j=>by
  obtain⟨k,J,K,s,t⟩:=aIw (P:=fun m=>BB m i=BB x i) (a:=x) (y-x) rfl (by rw[show x+(y-x)=y by omega];exact fun e=>j e.symm);have hr:i=R k:=by
   refine Classical.byContradiction fun e=>t ?_
   show BB (k+1) i=BB x i;rw[h.nb k (by omega),aZ e];exact s
  have z:=h.flat (k:=k) (by omega) (by omega) hq he;have f:=h.still hq he (i:=i) (k-p) (by omega);rw[show p+(k-p)=k by omega]at f;rw[←f,hr];exact z
 by_cases e:u≤v
 ·exact key u v hpu e hv hne
 ·exact key v u hpv (by omega) hu (fun e=>hne e.symm)
theorem aDN.once(h:aDN n C Z c TT GG BB R S N){p q:Nat}(hpq:p<q)(hq:q≤N)(hb:∀i,i<n→BB p i=BB q i):False:=by
 have he:GG p C=GG q C:=(((h.sx p (by omega)).same (h.sx q hq) hb (show C<C+1 by omega)).1).symm;have nonb:∀k j,k≤N→GG k j≠0→¬mem n (BB k) j:=fun k j L x ⟨i,s,F⟩=>x (by rw[←F];exact(h.sx k L).gb i s)
 have mlt:∀k j,k≤N→mem n (BB k) j→j<C:=fun k j L ⟨i,s,F⟩=>by rw[←F];exact(h.sx k L).lt i s
 let Fk:Nat→Prop:=fun j=>(∃k,p≤k∧k≤q∧mem n (BB k) j)∧∃k,p≤k∧k≤q∧¬mem n (BB k) j
 have ent:∀k,p≤k→k<q→Fk (S k):=fun k x F=>⟨⟨k+1,by omega,by omega,R k,h.rl k (by omega),by rw[h.nb k (by omega),aN]⟩,k,x,by omega,nonb k _ (by omega) (aOw (h.neg k (by omega)))⟩
 obtain⟨t,⟨⟨u0,O,U,G⟩,v0,V,X,I⟩,tmax⟩:=aQu (P:=Fk) C (fun j ⟨⟨k,_,k2,k3⟩,_⟩=>mlt k j (by omega) k3) ⟨_,ent p (Nat.le_refl _) hpq⟩;have mpq:mem n (BB p) t↔mem n (BB q) t:=⟨fun⟨i,s,e⟩=>⟨i,s,by rw[←hb i s];exact e⟩,fun⟨i,s,e⟩=>⟨i,s,by rw[hb i s];exact e⟩⟩;have tex:∀(P:Nat→Prop) a b,a≤b→P a→¬P b→∃u,a≤u∧u<b∧P u∧¬P (u+1):=fun P a b hab x F=>by
  have:=aIw (P:=P) (a:=a) (b-a) x (by rw[show a+(b-a)=b by omega];exact F);rw[show a+(b-a)=b by omega]at this;exact this
 obtain⟨⟨u,K,u2,u3,u4⟩,v,v1,v2,v3,v4⟩:(∃u,p≤u∧u<q∧mem n (BB u) t∧¬mem n (BB (u+1)) t)∧∃v,p≤v∧v<q∧¬mem n (BB v) t∧mem n (BB (v+1)) t:=by
  by_cases e:mem n (BB p) t
  ·obtain⟨a,a1,a2,a3,a4⟩:=tex (fun k=>mem n (BB k) t) p v0 V e I;obtain⟨d,d1,d2,d3,d4⟩:=tex (fun k=>¬mem n (BB k) t) v0 q X I (fun h=>h (mpq.1 e));exact⟨⟨a,a1,by omega,a3,a4⟩,d,by omega,d2,d3,Classical.not_not.1 d4⟩
  ·obtain⟨a,a1,a2,a3,a4⟩:=tex (fun k=>mem n (BB k) t) u0 q U G (fun h=>e (mpq.2 h));obtain⟨d,d1,d2,d3,d4⟩:=tex (fun k=>¬mem n (BB k) t) p u0 O e (fun h=>h G);exact⟨⟨a,by omega,a2,a3,a4⟩,d,d1,by omega,d3,Classical.not_not.1 d4⟩
 have hu:=h.sx u (by omega);have hv:=h.sx v (by omega);have hrt:BB u (R u)=t:=by
  obtain⟨i,s,e⟩:=u3;by_cases y:i=R u
  ·rw[←y];exact e
  ·exact absurd ⟨i,s,by rw[h.nb u (by omega),aZ y];exact e⟩ u4
 have hst:S v=t:=by
  obtain⟨i,s,e⟩:=v4;by_cases y:i=R v
  ·rw[h.nb v (by omega),y,aN]at e;exact e
  ·rw[h.nb v (by omega),aZ y]at e;exact absurd ⟨i,s,e⟩ v3
 have hs1:S u≤t:=tmax _ (ent u K u2);have hs2:S u≠t:=fun e=>nonb u (S u) (by omega) (aOw (h.neg u (by omega))) (by rw[e];exact u3)
 have hs3:0≤GG v (S u):=h.fst v (by omega) _ (by omega);have hcost:=hu.cost hv (show S u<C+1 by have:=h.sl u (by omega);omega);have hneg:=h.neg u (by omega);obtain⟨i,s,z⟩:=aHp (f:=fun i=>GG v (BB u i)*TT u i (S u)) (n:=n) (by grind);have J:GG v (BB u i)≠0:=fun e=>by rw[e,Rat.zero_mul]at z;exact absurd z Rat.lt_irrefl
 have hnv:=nonb v _ (by omega) J;have hj:=tmax (BB u i) ⟨⟨u,K,by omega,i,s,rfl⟩,v,v1,by omega,hnv⟩;have hpu:=h.pos u (by omega);by_cases ej:BB u i=t
 ·have er:i=R u:=hu.ti.inj s (h.rl u (by omega)) (by rw[ej,hrt]);have Y:=h.neg v (by omega);rw[hst]at Y;rw[ej,er]at z;have:=Rat.mul_nonneg (show 0≤-(GG v t) by grind) (Rat.le_of_lt hpu);grind
 ·have hg:0<GG v (BB u i):=by
   have x:0≤GG v (BB u i):=h.fst v (by omega) _ (by omega);exact Rat.lt_of_le_of_ne x (fun e=>J e.symm)
  have hT:0<TT u i (S u):=by
   refine Rat.not_le.1 fun hle=>?_
   have:=Rat.mul_nonneg (Rat.le_of_lt hg) (show 0≤-(TT u i (S u)) by grind);grind
  have z0:TT p i C=0:=h.zero hq he K (by omega) v1 (by omega) (fun e=>hnv ⟨i,s,e.symm⟩);have z1:=h.still hq he (i:=i) (u-p) (by omega);rw[show p+(u-p)=u by omega,z0]at z1;have z2:=h.flat K u2 hq he;rcases h.min u (by omega) i s hT with hm|⟨_,hm⟩
  ·rw[z1,z2]at hm;have e1:(0:Rat)/TT u (R u) (S u)=0:=by rw[Rat.div_def,Rat.zero_mul]
   have y:(0:Rat)/TT u i (S u)=0:=by rw[Rat.div_def,Rat.zero_mul]
   rw[e1,y]at hm;exact absurd hm Rat.lt_irrefl
  ·omega
end
def aAs(C:Nat)(b:Nat→Nat):Nat→Nat
 |0=>0
 |n+1=>b n+C*aAs C b n
theorem aJM{C:Nat}{b:Nat→Nat}:∀n,(∀i,i<n→b i<C)→aAs C b n<C^n
 |0,_=>by show 0<1;omega
 |n+1,h=>by
  have e:=aJM n fun i f=>h i (by omega)
  have j:=h n (by omega);show b n+C*aAs C b n<C^(n+1);have:C*(aAs C b n+1)≤C*C^n:=Nat.mul_le_mul_left C e;rw[Nat.pow_succ,Nat.mul_comm (C^n)];rw[Nat.mul_add,Nat.mul_one]at this;omega
theorem aHj{C:Nat}{b b':Nat→Nat}:∀n,(∀i,i<n→b i<C)→(∀i,i<n→b' i<C)→aAs C b n=aAs C b' n→∀i,i<n→b i=b' i
 |0,_,_,_,i,f=>by omega
 |n+1,h,j,e,i,f=>by
  have k:=h n (by omega);have q:=j n (by omega);have t:b n+C*aAs C b n=b' n+C*aAs C b' n:=e;have s:(b n+C*aAs C b n)%C=b n:=by rw[Nat.add_mul_mod_self_left,Nat.mod_eq_of_lt k]
  have u:(b' n+C*aAs C b' n)%C=b' n:=by rw[Nat.add_mul_mod_self_left,Nat.mod_eq_of_lt q]
  have d1:(b n+C*aAs C b n)/C=aAs C b n:=by rw[Nat.add_mul_div_left _ _ (by omega),Nat.div_eq_of_lt k,Nat.zero_add]
  have d2:(b' n+C*aAs C b' n)/C=aAs C b' n:=by rw[Nat.add_mul_div_left _ _ (by omega),Nat.div_eq_of_lt q,Nat.zero_add]
  rw[t]at s d1;by_cases ei:i=n
  ·rw[ei];exact s.symm.trans u
  ·exact aHj n (fun i f=>h i (by omega)) (fun i f=>j i (by omega)) (d1.symm.trans d2) i (by omega)
theorem aDN.short{n C N:Nat}{Z:Nat→Nat→Rat}{c:Nat→Rat}{TT:Nat→Nat→Nat→Rat}{GG:Nat→Nat→Rat}{BB:Nat→Nat→Nat}{R S:Nat→Nat}(h:aDN n C Z c TT GG BB R S N):N+1≤C^n:=by
 refine pig (N+1) (C^n) (fun k=>aAs C (BB k) n) (fun k q=>aJM n (h.sx k (by omega)).lt) fun i j f s e=>?_
 have hb:=aHj n (h.sx i (by omega)).lt (h.sx j (by omega)).lt e;refine Classical.byContradiction fun hne=>?_
 rcases Nat.lt_or_gt_of_ne hne with hlt|hlt
 ·exact h.once hlt (by omega) hb
 ·exact h.once hlt (by omega) fun i f=>(hb i f).symm
def ent(g:Nat→Rat):Nat→Nat→Option Nat
 |0,_=>none
 |t+1,i=>bif decide ((g i).num.sign<0) then some i else ent g t (i+1)
theorem aEd{x:Rat}:x.num.sign<0↔x<0:=by
 have e:=@aDX (-x);rw[Rat.neg_num,Int.sign_neg]at e;constructor
 ·intro h;have:=e.1 (by omega);grind
 ·intro h;have:=e.2 (by grind);omega
theorem aCp{g:Nat→Rat}:∀t i r,ent g t i=some r→i≤r∧r<i+t∧g r<0∧∀j,i≤j→j<r→0≤g j
 |0,i,r,h=>by cases h
 |t+1,i,r,h=>by
  unfold ent at h;by_cases e:g i<0
  ·rw[decide_eq_true (aEd.2 e),bL]at h;cases h;exact⟨Nat.le_refl _,by omega,e,fun j f k=>by omega⟩
  ·rw[decide_eq_false (fun h=>e (aEd.1 h)),bG]at h;obtain⟨f,k,q,s⟩:=aCp t (i+1) r h;refine⟨by omega,by omega,q,fun j j1 j2=>?_⟩;by_cases ej:j=i
   ·rw[ej];exact Rat.not_lt.1 e
   ·exact s j (by omega) j2
theorem aJK{g:Nat→Rat}:∀t i,ent g t i=none→∀j,i≤j→j<i+t→0≤g j
 |0,i,_,j,f,k=>by omega
 |t+1,i,h,j,f,k=>by
  unfold ent at h;by_cases e:g i<0
  ·rw[decide_eq_true (aEd.2 e),bL]at h;cases h
  ·rw[decide_eq_false (fun h=>e (aEd.1 h)),bG]at h;by_cases ej:j=i
   ·rw[ej];exact Rat.not_lt.1 e
   ·exact aJK t (i+1) h j (by omega) (by omega)
theorem aFJ{x:Rat}(h:¬0<x):x.num.sign≤0:=Int.not_lt.1 fun hp=>h (aDX.1 hp)
def rto(T:Nat→Nat→Rat)(C col i:Nat):Rat:=T i C/T i col
def bet(T:Nat→Nat→Rat)(b:Nat→Nat)(C col i r:Nat):Bool:=
 bif decide (rto T C col i<rto T C col r) then true else bif decide (rto T C col i=rto T C col r) then decide (b i<b r) else false
def lvs(T:Nat→Nat→Rat)(b:Nat→Nat)(C col:Nat):Nat→Nat→Option Nat→Option Nat
 |0,_,s=>s
 |t+1,i,s=>bif decide ((T i col).num.sign≤0) then lvs T b C col t (i+1) s else
  match s with
  |none=>lvs T b C col t (i+1) (some i)
  |some r=>bif bet T b C col i r then lvs T b C col t (i+1) (some i) else lvs T b C col t (i+1) (some r)
def asg(T:Nat→Nat→Rat)(b:Nat→Nat)(C col r k:Nat):Prop:=rto T C col r<rto T C col k∨(rto T C col r=rto T C col k∧b r≤b k)
theorem aPl{T:Nat→Nat→Rat}{b:Nat→Nat}{C col i r:Nat}(h:bet T b C col i r=true):rto T C col i<rto T C col r∨(rto T C col i=rto T C col r∧b i<b r):=by
 unfold bet at h;by_cases e:rto T C col i<rto T C col r
 ·exact Or.inl e
 ·rw[decide_eq_false e,bG]at h;by_cases f:rto T C col i=rto T C col r
  ·rw[decide_eq_true f,bL]at h;exact Or.inr ⟨f,of_decide_eq_true h⟩
  ·rw[decide_eq_false f,bG]at h;cases h
theorem aNr{T:Nat→Nat→Rat}{b:Nat→Nat}{C col i r:Nat}(h:bet T b C col i r=false):asg T b C col r i:=by
 unfold bet at h;by_cases e:rto T C col i<rto T C col r
 ·rw[decide_eq_true e,bL]at h;cases h
 ·rw[decide_eq_false e,bG]at h;by_cases f:rto T C col i=rto T C col r
  ·rw[decide_eq_true f,bL]at h;exact Or.inr ⟨f.symm,Nat.not_lt.1 (of_decide_eq_false h)⟩
  ·exact Or.inl (Rat.lt_of_le_of_ne (Rat.not_lt.1 e) (fun h=>f h.symm))
theorem aCf{T:Nat→Nat→Rat}{b:Nat→Nat}{C col:Nat}:∀t i s r,(∀q,s=some q→q<i∧0<T q col∧∀k,k<i→0<T k col→asg T b C col q k)→(s=none→∀k,k<i→¬0<T k col)→lvs T b C col t i s=some r→r<i+t∧0<T r col∧∀k,k<i+t→0<T k col→asg T b C col r k
 |0,i,s,r,u,_,h=>u r h
 |t+1,i,s,r,u,G,h=>by
  unfold lvs at h;rw[show i+(t+1)=i+1+t by omega];by_cases e:0<T i col
  ·rw[decide_eq_false (fun hle=>absurd (aDX.2 e) (by omega)),bG]at h;cases s with
   |none=>
    refine aCf t (i+1) (some i) r (fun q hq=>?_) (fun hq=>by cases hq) h;cases hq;refine⟨by omega,e,fun k x hp=>?_⟩;by_cases ek:k=i
    ·rw[ek];exact Or.inr ⟨rfl,Nat.le_refl _⟩
    ·exact absurd hp (G rfl k (by omega))
   |some q=>
    obtain⟨J,F,y⟩:=u q rfl;have z:(bif bet T b C col i q then lvs T b C col t (i+1) (some i) else lvs T b C col t (i+1) (some q))=some r:=h;cases hb:bet T b C col i q with
    |true=>
     rw[hb,bL]at z;refine aCf t (i+1) (some i) r (fun p hp=>?_) (fun hp=>by cases hp) z;cases hp;refine⟨by omega,e,fun k x hkp=>?_⟩;by_cases ek:k=i
     ·rw[ek];exact Or.inr ⟨rfl,Nat.le_refl _⟩
     ·have I:=y k (by omega) hkp;rcases aPl hb with j|⟨j,K⟩
      ·rcases I with f|⟨f,_⟩
       ·exact Or.inl (Std.lt_trans j f)
       ·exact Or.inl (by rw[←f];exact j)
      ·rcases I with f|⟨f,L⟩
       ·exact Or.inl (by rw[j];exact f)
       ·exact Or.inr ⟨by rw[j,f],by omega⟩
    |false=>
     rw[hb,bG]at z;refine aCf t (i+1) (some q) r (fun p hp=>?_) (fun hp=>by cases hp) z;cases hp;refine⟨by omega,F,fun k x hkp=>?_⟩;by_cases ek:k=i
     ·rw[ek];exact aNr hb
     ·exact y k (by omega) hkp
  ·rw[decide_eq_true (aFJ e),bL]at h;refine aCf t (i+1) s r (fun q hq=>?_) (fun hq k x=>?_) h
   ·obtain⟨J,F,y⟩:=u q hq;refine⟨by omega,F,fun k x hkp=>?_⟩;by_cases ek:k=i
    ·rw[ek]at hkp;exact absurd hkp e
    ·exact y k (by omega) hkp
   ·by_cases ek:k=i
    ·rw[ek];exact e
    ·exact G hq k (by omega)
theorem aCv{T:Nat→Nat→Rat}{b:Nat→Nat}{C col:Nat}:∀t i s,lvs T b C col t i s=none→s=none∧∀k,i≤k→k<i+t→¬0<T k col
 |0,i,s,h=>⟨h,fun k j u=>by omega⟩
 |t+1,i,s,h=>by
  unfold lvs at h;by_cases e:0<T i col
  ·rw[decide_eq_false (fun hle=>absurd (aDX.2 e) (by omega)),bG]at h;cases s with
   |none=>exact absurd (aCv t (i+1) _ h).1 (by simp)
   |some q=>
    have f:(bif bet T b C col i q then lvs T b C col t (i+1) (some i) else lvs T b C col t (i+1) (some q))=none:=h;cases hb:bet T b C col i q with
    |true=>rw[hb,bL]at f;exact absurd (aCv t (i+1) _ f).1 (by simp)
    |false=>rw[hb,bG]at f;exact absurd (aCv t (i+1) _ f).1 (by simp)
  ·rw[decide_eq_true (aFJ e),bL]at h;obtain⟨j,u⟩:=aCv t (i+1) s h;refine⟨j,fun k x y=>?_⟩;by_cases ek:k=i
   ·rw[ek];exact e
   ·exact u k (by omega) (by omega)
structure STb where
 t:Nat→Nat→Rat
 g:Nat→Rat
 b:Nat→Nat
def snx(s:STb)(r col:Nat):STb:=⟨qC s.t r col,gpv s.g s.t r col,gN s.b r col⟩
def aC7(n C en:Nat):Nat→STb→Option (Option Nat×STb)
 |0,_=>none
 |f+1,s=>match ent s.g en 0 with
  |none=>some (none,s)
  |some col=>match lvs s.t s.b C col n 0 none with
   |none=>some (some col,s)
   |some r=>aC7 n C en f (snx s r col)
def SXs(n C:Nat)(Z:Nat→Nat→Rat)(c:Nat→Rat)(s:STb):Prop:=SX n C Z c s.t s.g s.b∧∀i,i<n→0≤s.t i C
theorem aLe{n C:Nat}{T:Nat→Nat→Rat}{r col:Nat}(j:∀i,i<n→0≤T i C)(hr:r<n)(hp:0<T r col)(hm:∀i,i<n→0<T i col→rto T C col r≤rto T C col i):∀i,i<n→0≤qC T r col i C:=fun i k=>by
 have q:0≤T r C/T r col:=by rw[Rat.div_def];exact Rat.mul_nonneg (j r hr) (Rat.le_of_lt (Rat.inv_pos.2 hp))
 unfold qC;by_cases e:i=r
 ·rw[if_pos e];exact q
 ·rw[if_neg e];by_cases f:0<T i col
  ·have h:=hm i k f;unfold rto at h;have s:=Rat.mul_le_mul_of_nonneg_left h (Rat.le_of_lt f);have t:T i col*(T i C/T i col)=T i C:=by have:=aCD f;grind
   rw[t]at s;grind
  ·have h:=j i k;have:=Rat.mul_nonneg (show 0≤-(T i col) by grind) q;grind
theorem aUy{T:Nat→Nat→Rat}{b:Nat→Nat}{C col r k:Nat}(h:asg T b C col r k):rto T C col r≤rto T C col k:=by
 rcases h with h|⟨h,_⟩
 ·exact Rat.le_of_lt h
 ·rw[h];exact Rat.le_refl
theorem SXs.next{n C:Nat}{Z:Nat→Nat→Rat}{c:Nat→Rat}{s:STb}(h:SXs n C Z c s){r col:Nat}(hc:col<C)(hs:lvs s.t s.b C col n 0 none=some r):SXs n C Z c (snx s r col)∧r<n∧0<s.t r col∧∀k,k<n→0<s.t k col→asg s.t s.b C col r k:=by
 obtain⟨e,f,j⟩:=aCf n 0 none r (fun q hq=>by cases hq) (fun _ k x=>by omega) hs;rw[Nat.zero_add]at e j;exact⟨⟨h.1.pivot e hc (aCD f),aLe h.2 e f fun i u hp=>aUy (j i u hp)⟩,e,f,j⟩
def rst(n C en:Nat)(s:STb):Nat→STb
 |0=>s
 |k+1=>snx (rst n C en s k) ((lvs (rst n C en s k).t (rst n C en s k).b C ((ent (rst n C en s k).g en 0).getD 0) n 0 none).getD 0) ((ent (rst n C en s k).g en 0).getD 0)
def sgo(n C en:Nat)(s:STb):Prop:=∃col r,ent s.g en 0=some col∧lvs s.t s.b C col n 0 none=some r
theorem aHn{n C en:Nat}{s:STb}{col r:Nat}(e:ent s.g en 0=some col)(f:lvs s.t s.b C col n 0 none=some r):∀k,rst n C en (snx s r col) k=rst n C en s (k+1)
 |0=>by
  show snx s r col=snx s ((lvs s.t s.b C ((ent s.g en 0).getD 0) n 0 none).getD 0) ((ent s.g en 0).getD 0);rw[e];show snx s r col=snx s ((lvs s.t s.b C col n 0 none).getD 0) col;rw[f];rfl
 |k+1=>by
  show snx _ _ _=rst n C en s (k+1+1);rw[aHn e f k];rfl
theorem aHs{n C en:Nat}:∀f s,aC7 n C en f s=none→∀k,k<f→sgo n C en (rst n C en s k)
 |0,s,_,k,q=>by omega
 |f+1,s,h,k,q=>by
  cases e:ent s.g en 0 with
  |none=>simp only[aC7,e]at h;cases h
  |some col=>
   cases j:lvs s.t s.b C col n 0 none with
   |none=>simp only[aC7,e,j]at h;cases h
   |some r=>
    simp only[aC7,e,j]at h;cases k with
    |zero=>exact⟨col,r,e,j⟩
    |succ k=>
     rw[←aHn e j];exact aHs f _ h k (by omega)
theorem aSd{n C en N:Nat}{Z:Nat→Nat→Rat}{c:Nat→Rat}{s:STb}(h:SXs n C Z c s)(hen:en≤C)(u:∀k,k<N→sgo n C en (rst n C en s k)):aDN n C Z c (fun k=>(rst n C en s k).t) (fun k=>(rst n C en s k).g) (fun k=>(rst n C en s k).b) (fun k=>(lvs (rst n C en s k).t (rst n C en s k).b C ((ent (rst n C en s k).g en 0).getD 0) n 0 none).getD 0) (fun k=>(ent (rst n C en s k).g en 0).getD 0) N:=by
 have all:∀k,k≤N→SXs n C Z c (rst n C en s k):=fun k=>by
  induction k with
  |zero=>intro _;exact h
  |succ k ih=>
   intro e;obtain⟨col,r,f,q⟩:=u k (by omega);obtain⟨_,x,_,_⟩:=aCp _ _ _ f;have:=((ih (by omega)).next (col:=col) (by omega) q).1;show SXs n C Z c (snx _ _ _);rw[f];show SXs n C Z c (snx _ ((lvs _ _ C col n 0 none).getD 0) col);rw[q];exact this
 have st:∀k,k<N→∃col r,(ent (rst n C en s k).g en 0).getD 0=col∧(lvs (rst n C en s k).t (rst n C en s k).b C ((ent (rst n C en s k).g en 0).getD 0) n 0 none).getD 0=r∧col<C∧(rst n C en s k).g col<0∧(∀j,j<col→0≤(rst n C en s k).g j)∧r<n∧0<(rst n C en s k).t r col∧∀i,i<n→0<(rst n C en s k).t i col→asg (rst n C en s k).t (rst n C en s k).b C col r i:=fun k e=>by
  obtain⟨col,r,f,q⟩:=u k e;obtain⟨_,x,y,z⟩:=aCp _ _ _ f;obtain⟨_,F,G,I⟩:=(all k (by omega)).next (col:=col) (by omega) q;exact⟨col,r,by rw[f];rfl,by rw[f];show(lvs _ _ C col n 0 none).getD 0=r;rw[q];rfl,by omega,y,fun j J=>z j (Nat.zero_le _) J,F,G,I⟩
 refine⟨fun k e=>(all k e).1,fun k e=>(all k e).2,fun k e=>?_,fun k e=>?_,fun k e=>?_,fun k e=>?_,fun k e=>?_,fun k e=>?_,fun k e=>rfl,fun k e=>rfl,fun k e=>rfl⟩
 all_goals obtain⟨col,r,f,q,K,L,O,U,V,X⟩:=st k e
 ·show(lvs _ _ C _ n 0 none).getD 0<n;rw[q];exact U
 ·show(ent _ en 0).getD 0<C;rw[f];exact K
 ·show(rst n C en s k).g ((ent _ en 0).getD 0)<0;rw[f];exact L
 ·show∀j,j<(ent _ en 0).getD 0→_;rw[f];exact O
 ·show 0<(rst n C en s k).t ((lvs _ _ C _ n 0 none).getD 0) ((ent _ en 0).getD 0);rw[q,f];exact V
 ·show∀i,i<n→0<(rst n C en s k).t i ((ent _ en 0).getD 0)→_;rw[q,f];exact X
theorem aH2{n C en f:Nat}{Z:Nat→Nat→Rat}{c:Nat→Rat}{s:STb}(h:SXs n C Z c s)(hen:en≤C)(j:C^n≤f):∃o e,aC7 n C en f s=some (o,e):=by
 cases hs:aC7 n C en f s with
 |none=>
  have:=(aSd h hen (aHs f s hs)).short;omega
 |some x=>exact⟨x.1,x.2,rfl⟩
theorem aGA{n C en:Nat}{Z:Nat→Nat→Rat}{c:Nat→Rat}{P:STb→Prop}(hen:en≤C)(u:∀s r col,SXs n C Z c s→P s→r<n→col<en→0<s.t r col→P (snx s r col)):∀f s o e,SXs n C Z c s→P s→aC7 n C en f s=some (o,e)→SXs n C Z c e∧P e∧(o=none→∀k,k<en→0≤e.g k)∧∀col,o=some col→col<en∧e.g col<0∧∀i,i<n→e.t i col≤0
 |0,s,o,e,_,_,hs=>by cases hs
 |f+1,s,o,e,h,hp,hs=>by
  cases j:ent s.g en 0 with
  |none=>
   simp only[aC7,j]at hs;cases hs;exact⟨h,hp,fun _ k G=>aJK en 0 j k (Nat.zero_le _) (by omega),fun col hc=>by cases hc⟩
  |some col=>
   obtain⟨_,I,x,_⟩:=aCp _ _ _ j;cases q:lvs s.t s.b C col n 0 none with
   |none=>
    simp only[aC7,j,q]at hs;cases hs;refine⟨h,hp,fun hc=>(by cases hc),fun col' hc=>?_⟩;cases hc;exact⟨by omega,x,fun i J=>Rat.not_lt.1 ((aCv n 0 none q).2 i (Nat.zero_le _) (by omega))⟩
   |some r=>
    simp only[aC7,j,q]at hs;obtain⟨y,z,F,_⟩:=h.next (col:=col) (by omega) q;exact aGA hen u f _ o e y (u s r col h hp z (by omega) F) hs
theorem SX.bd{n C M B:Nat}{Z T:Nat→Nat→Rat}{c g:Nat→Rat}{b:Nat→Nat}{D:Rat}(h:SX n C Z c T g b)(x:D≠0)(t:xX M D)(y:∀i k,i<n→k<C+1→xX M (Z i k*D))(hc:∀k,k<C+1→xX M (c k*D))(G:n≤63)(hM:(64*M)^(n+1)<2^B):qX n (C+1) B T∧∀k,k<C+1→Bd B (g k):=by
 let Z':Nat→Nat→Rat:=fun i k=>if i<n then(if k<C+1 then Z i k else 0) else(if k<C+1 then c k else 1)
 let T':Nat→Nat→Rat:=fun i k=>if i<n then(if k<C+1 then T i k else 0) else(if k<C+1 then g k else 1)
 let b':Nat→Nat:=fun i=>if i<n then b i else C+1
 obtain⟨E,z⟩:=h.ti.ex;obtain⟨l,F⟩:=h.gc;have ti:TI (n+1) (C+2) Z' T' b':=by
  refine⟨⟨fun i j=>if i<n then(if j<n then E i j else 0) else(if j<n then -(l j) else 1),fun i k s q=>?_⟩,fun j f=>?_,fun i j s f=>?_⟩
  ·rw[vX];show T' i k=sm _ n+Z' n k*_;by_cases e:i<n
   ·have u:sm (fun j=>Z' j k*(if i<n then(if j<n then E i j else 0) else(if j<n then -(l j) else 1))) n=sm (fun j=>(if k<C+1 then Z j k else 0)*E i j) n:=aK fun j f=>by
     show(if j<n then _ else _)*_=_;rw[if_pos f,if_pos e,if_pos f]
    rw[u,if_pos e,if_neg (Nat.lt_irrefl n),Rat.mul_zero,Rat.add_zero];show(if i<n then _ else _)=_;rw[if_pos e];by_cases ek:k<C+1
    ·rw[if_pos ek,z i k e ek,vX];exact aK fun j _=>by rw[if_pos ek]
    ·rw[if_neg ek];exact(dM fun j _=>by rw[if_neg ek,Rat.zero_mul]).symm
   ·have u:sm (fun j=>Z' j k*(if i<n then(if j<n then E i j else 0) else(if j<n then -(l j) else 1))) n=sm (fun j=>-((if k<C+1 then l j*Z j k else 0))) n:=aK fun j f=>by
     show(if j<n then _ else _)*_=_;rw[if_pos f,if_neg e,if_pos f];split<;>grind
    rw[u,if_neg e,if_neg (Nat.lt_irrefl n),uB,Rat.mul_one];show(if i<n then _ else _)=_+(if n<n then _ else _);rw[if_neg e,if_neg (Nat.lt_irrefl n)];by_cases ek:k<C+1
    ·rw[if_pos ek,if_pos ek,F k ek];have:sm (fun j=>if k<C+1 then l j*Z j k else 0) n=sm (fun j=>l j*Z j k) n:=aK fun j _=>if_pos ek
     rw[this];grind
    ·rw[if_neg ek,if_neg ek,dM fun j _=>if_neg ek];grind
  ·show(if j<n then b j else C+1)<C+2;split
   ·rename_i hjn;have:=h.lt j hjn;omega
   ·omega
  ·show(if i<n then(if b' j<C+1 then T i (b' j) else 0) else(if b' j<C+1 then g (b' j) else 1))=_;by_cases ei:i<n<;>by_cases ej:j<n
   ·have e:b' j=b j:=if_pos ej;have:=h.lt j ej;rw[if_pos ei,e,if_pos (by omega)];exact h.ti.un i j ei ej
   ·have e:b' j=C+1:=if_neg ej;rw[if_pos ei,e,if_neg (by omega),if_neg (by omega)]
   ·have e:b' j=b j:=if_pos ej;have:=h.lt j ej;rw[if_neg ei,e,if_pos (by omega),h.gb j ej,if_neg (by omega)]
   ·have e:b' j=C+1:=if_neg ej;rw[if_neg ei,e,if_neg (by omega),if_pos (by omega)]
 have key:=ti.bd (D:=D) (M:=M) (k:=B) x (fun i k s q=>by
  show xX M ((if i<n then(if k<C+1 then Z i k else 0) else(if k<C+1 then c k else 1))*D);have z0:xX M (0*D):=by rw[Rat.zero_mul];exact xX.zero.mono (Nat.zero_le _)
  by_cases ei:i<n<;>by_cases ek:k<C+1
  ·rw[if_pos ei,if_pos ek];exact y i k ei ek
  ·rw[if_pos ei,if_neg ek];exact z0
  ·rw[if_neg ei,if_pos ek];exact hc k ek
  ·rw[if_neg ei,if_neg ek,Rat.one_mul];exact t) (by omega) hM
 constructor
 ·intro i k s q;have:=key i k (by omega) (by omega);have e:T' i k=T i k:=by show(if i<n then(if k<C+1 then T i k else 0) else _)=_;rw[if_pos s,if_pos q]
  rw[e]at this;exact this
 ·intro k q;have:=key n k (by omega) (by omega);have e:T' n k=g k:=by show(if n<n then _ else(if k<C+1 then g k else 1))=_;rw[if_neg (Nat.lt_irrefl n),if_pos q]
  rw[e]at this;exact this
def prc(c:Nat→Rat)(T:Nat→Nat→Rat)(b:Nat→Nat):Nat→Nat→Rat
 |0=>c
 |i+1=>fun k=>prc c T b i k-prc c T b i (b i)*T i k
theorem aMB{n w:Nat}{Z T:Nat→Nat→Rat}{c:Nat→Rat}{b:Nat→Nat}(h:TI n w Z T b):∀m,m≤n→∀i,i<n→prc c T b m (b i)=if i<m then 0 else c (b i)
 |0,_,i,f=>by rw[if_neg (by omega)];rfl
 |m+1,hm,i,f=>by
  show prc c T b m (b i)-prc c T b m (b m)*T m (b i)=_;rw[aMB h m (by omega) i f,aMB h m (by omega) m (by omega),h.un m i (by omega) f,if_neg (Nat.lt_irrefl m)];by_cases e:m=i
  ·rw[if_pos e,e,if_neg (Nat.lt_irrefl i),if_pos (by omega)];grind
  ·rw[if_neg e,Rat.mul_zero];by_cases j:i<m
   ·rw[if_pos j,if_pos (by omega)];grind
   ·rw[if_neg j,if_neg (by omega)];grind
theorem aP7{n w:Nat}{Z T:Nat→Nat→Rat}{c:Nat→Rat}{b:Nat→Nat}(h:TI n w Z T b):∀m,m≤n→∃l:Nat→Rat,∀k,k<w→prc c T b m k=c k-sm (fun j=>l j*Z j k) n
 |0,_=>⟨fun _=>0,fun k _=>by rw[dM fun j _=>Rat.zero_mul _];show c k=_;grind⟩
 |m+1,hm=>by
  obtain⟨l,f⟩:=aP7 h (c:=c) m (by omega);obtain⟨E,q⟩:=h.row (show m<n by omega);refine⟨fun j=>l j+prc c T b m (b m)*E j,fun k e=>?_⟩;show prc c T b m k-prc c T b m (b m)*T m k=_;have s:sm (fun j=>(l j+prc c T b m (b m)*E j)*Z j k) n=sm (fun j=>l j*Z j k) n+prc c T b m (b m)*sm (fun j=>E j*Z j k) n:=by
   rw[←mY,←aA1];exact aK fun j _=>by grind
  rw[s,f k e,q k e];grind
theorem aO4{n C:Nat}{Z T:Nat→Nat→Rat}{c:Nat→Rat}{b:Nat→Nat}(h:TI n (C+1) Z T b)(hlt:∀i,i<n→b i<C)(ke:KE n (C+1) Z T):SX n C Z c T (prc c T b n) b:=
 ⟨h,hlt,ke,fun i e=>by rw[aMB h n (Nat.le_refl _) i e,if_pos e],aP7 h n (Nat.le_refl _)⟩
theorem aPs{n w B0 B:Nat}{T:Nat→Nat→Rat}{c:Nat→Rat}{b:Nat→Nat}(hb:∀i,i<n→b i<w)(hc:∀k,k<w→Bd B0 (c k))(h:qX n w B T)(j:∀i,i<n→∀m,m≤i→prc c T b m (b i)=c (b i)):∀m,m≤n→∀k,k<w→Bd (B0+m*(B0+B+1)) (prc c T b m k)
 |0,_,k,f=>(hc k f).mono (by omega)
 |m+1,hm,k,f=>by
  show Bd _ (prc c T b m k-prc c T b m (b m)*T m k);rw[j m (by omega) m (Nat.le_refl _)];have e:(m+1)*(B0+B+1)=m*(B0+B+1)+(B0+B+1):=Nat.succ_mul _ _;exact((aPs hb hc h j m (by omega) k f).sub ((hc _ (hb m (by omega))).mul (h m k (by omega) f))).mono (by omega)
/-- The quadratic form. -/
def qfm(M:Nat→Nat→Rat)(n:Nat)(x:Nat→Rat):Rat:=sm (fun i=>x i*sm (fun j=>M i j*x j) n) n
def shr(g:Nat→Nat→Rat):Nat→Nat→Nat→Rat
 |0=>g
 |k+1=>fun i c=>shr g k i c-shr g k i k*shr g k k c/shr g k k k
section
variable {g:Nat→Nat→Rat} {n:Nat}
theorem aCI:∀k,∀i c,k≤i→k≤c→shr g k i c=ela g k i c
 |0,i,c,_,_=>rfl
 |k+1,i,c,e,hc=>by
  show shr g k i c-shr g k i k*shr g k k c/shr g k k k=est (ela g k) k i c;rw[aCI k i c (by omega) (by omega),aCI k i k (by omega) (by omega),aCI k k c (by omega) (by omega),aCI k k k (by omega) (by omega)];unfold est;rw[if_pos (by omega)];grind
theorem aFG(hs:∀i c,i<n→c<n→g i c=g c i):∀k,k≤n→∀i c,i<n→c<n→shr g k i c=shr g k c i
 |0,_,i,c,e,hc=>hs i c e hc
 |k+1,f,i,c,e,hc=>by
  show shr g k i c-shr g k i k*shr g k k c/shr g k k k=shr g k c i-shr g k c k*shr g k k i/shr g k k k;rw[aFG hs k (by omega) i c e hc,aFG hs k (by omega) i k e (by omega),aFG hs k (by omega) k c (by omega) hc];grind
theorem aBg(hp:aFC g n):∀k,k≤n→∀i c,i<k∨c<k→shr g k i c=0
 |0,_,i,c,h=>by omega
 |k+1,j,i,c,h=>by
  have q:shr g k k k≠0:=by rw[aCI k k k (Nat.le_refl _) (Nat.le_refl _)];exact aCD (hp k (by omega))
  show shr g k i c-shr g k i k*shr g k k c/shr g k k k=0;by_cases e:i=k
  ·rw[e];grind
  ·by_cases f:c=k
   ·rw[f];grind
   ·rcases h with h|h
    ·rw[aBg hp k (by omega) i c (.inl (by omega)),aBg hp k (by omega) i k (.inl (by omega))];grind
    ·rw[aBg hp k (by omega) i c (.inr (by omega)),aBg hp k (by omega) k c (.inr (by omega))];grind
def rwx(g:Nat→Nat→Rat)(n:Nat)(x:Nat→Rat)(k:Nat):Rat:=sm (fun c=>shr g k k c*x c) n
theorem aQc(hs:∀i c,i<n→c<n→g i c=g c i)(x:Nat→Rat){k:Nat}(f:k<n):qfm (shr g k) n x=qfm (shr g (k+1)) n x+rwx g n x k*rwx g n x k/shr g k k k:=by
 have h:∀i,i<n→x i*sm (fun j=>shr g (k+1) i j*x j) n=x i*sm (fun j=>shr g k i j*x j) n-(rwx g n x k/shr g k k k)*(shr g k k i*x i):=fun i e=>by
  have q:sm (fun j=>shr g (k+1) i j*x j) n=sm (fun j=>shr g k i j*x j) n-(shr g k k i/shr g k k k)*rwx g n x k:=by
   unfold rwx;rw[←w7];refine aK fun j _=>?_
   show(shr g k i j-shr g k i k*shr g k k j/shr g k k k)*x j=_;rw[aFG hs k (by omega) i k e f];grind
  rw[q];grind
 have s:qfm (shr g (k+1)) n x=qfm (shr g k) n x-(rwx g n x k/shr g k k k)*rwx g n x k:=by
  unfold qfm;have:sm (fun i=>shr g k k i*x i) n=rwx g n x k:=rfl;rw[←this,←w7];exact aK fun i e=>h i e
 rw[s];grind
theorem aMf(hs:∀i c,i<n→c<n→g i c=g c i)(x:Nat→Rat):∀k,k≤n→qfm g n x=qfm (shr g k) n x+sm (fun j=>rwx g n x j*rwx g n x j/shr g j j j) k
 |0,_=>by show qfm g n x=qfm g n x+0;grind
 |k+1,e=>by
  rw[aMf hs x k (by omega),aQc hs x (show k<n by omega)];show _=_+(sm _ k+_);grind
theorem aMS(hs:∀i c,i<n→c<n→g i c=g c i)(hp:aFC g n)(x:Nat→Rat):qfm g n x=sm (fun j=>rwx g n x j*rwx g n x j/shr g j j j) n:=by
 rw[aMf hs x n (Nat.le_refl _)];have:qfm (shr g n) n x=0:=dM fun i e=>by
  rw[dM fun j _=>by rw[aBg hp n (Nat.le_refl _) i j (.inl e),Rat.zero_mul],Rat.mul_zero]
 rw[this,Rat.zero_add]
theorem aQw{a d:Rat}(e:0<d):0≤a*a/d:=by
 rw[Rat.div_def];exact Rat.mul_nonneg (aCQ a) (Rat.le_of_lt (Rat.inv_pos.2 e))
theorem aFH(hp:aFC g n){j:Nat}(e:j<n):0<shr g j j j:=by
 rw[aCI j j j (Nat.le_refl _) (Nat.le_refl _)];exact hp j e
theorem aQF(hs:∀i c,i<n→c<n→g i c=g c i)(hp:aFC g n)(x:Nat→Rat):0≤qfm g n x:=by
 rw[aMS hs hp];exact pW fun j e=>aQw (aFH hp e)
theorem aEb(hs:∀i c,i<n→c<n→g i c=g c i)(hp:aFC g n){x:Nat→Rat}(h:qfm g n x=0):∀i,i<n→x i=0:=by
 rw[aMS hs hp]at h;have y:=aFX (fun j s=>aQw (a:=rwx g n x j) (aFH hp s)) h;have z:∀j,j<n→rwx g n x j=0:=fun j s=>by
  have F:=y j s;have k:=aCD (aFH hp s);have q:rwx g n x j*rwx g n x j=0:=by
   have G:rwx g n x j*rwx g n x j/shr g j j j=0:=F;have f:rwx g n x j*rwx g n x j=(rwx g n x j*rwx g n x j/shr g j j j)*shr g j j j:=by grind
   rw[f,G,Rat.zero_mul]
  rcases Rat.mul_eq_zero.1 q with f|f<;>exact f
 have key:∀t i,i+t=n→∀j,i≤j→j<n→x j=0:=fun t=>by
  induction t with
  |zero=>intro i u j y z;omega
  |succ t ih=>
   intro i u j F k;by_cases e:j=i
   ·subst e;have q:=z j k;unfold rwx at q;rw[kP k fun c hc hne=>by
     by_cases I:c<j
     ·rw[aBg hp j (by omega) j c (.inr I),Rat.zero_mul]
     ·rw[ih (j+1) (by omega) c (by omega) hc,Rat.mul_zero]]at q
    rcases Rat.mul_eq_zero.1 q with f|f
    ·exact absurd f (aCD (aFH hp k))
    ·exact f
   ·exact ih (i+1) (by omega) j (by omega) k
 exact fun i u=>key n 0 (by omega) i (Nat.zero_le _) u
end
theorem dn_q{p q:Int}{m:Nat}(hp:p.natAbs≤m)(j:1≤q)(s:q≤3):dn 6 1 (6*m) ((p:Rat)/q):=by
 have key:∀k:Int,((q:Rat)⁻¹)*6=(k:Rat)→k.natAbs≤6→dn 6 1 (6*m) ((p:Rat)/q):=fun k h f=>
  ⟨p*k,by
   have e:((6^1:Nat):Rat)=6:=rfl;rw[Rat.div_def,Rat.intCast_mul,←h,e,Rat.mul_assoc],by rw[Int.natAbs_mul,Nat.mul_comm];exact Nat.mul_le_mul f hp⟩
 obtain rfl|rfl|rfl:q=1∨q=2∨q=3:=by omega
 ·exact key 6 (by decide+kernel) (by decide)
 ·exact key 3 (by decide+kernel) (by decide)
 ·exact key 2 (by decide+kernel) (by decide)
theorem aES{p q:Int}{m:Nat}(hp:p.natAbs≤m)(e:1≤q)(f:q≤3)(hm:m≤100):∃r,qof p q=some r∧dn 6 1 (6*m) r:=by
 obtain⟨r,h,j,_⟩:=aTV (k:=8) (p:=p) (q:=q) (by omega) (by omega) (by omega) (by omega);exact⟨r,h,by rw[j];exact dn_q hp e f⟩
theorem y6{x:Rat}(h:dn 6 2 4000 x):Bd 12 x:=by
 obtain⟨z,k,q⟩:=h;have e:((6^2:Nat):Rat)=36:=rfl;have f:((36:Int):Rat)≠0:=by decide+kernel
 have j:((36:Int):Rat)=36:=rfl;have:x=(z:Rat)/((36:Int):Rat):=by
  rw[←k,e,j,Rat.div_def,Rat.mul_assoc,Rat.mul_inv_cancel _ (by rw[←j];exact f),Rat.mul_one]
 rw[this];exact Bd.of (by omega) (by omega) (by decide)
theorem aJZ{m:Nat}{x:Rat}(h:dn 6 1 m x)(hm:m*6≤4000):dn 6 2 4000 x:=h.up.mono hm
theorem aNS{x:Int}(j:0≤x∧x<60):∃r,k5 x=some r∧dn 6 1 24 r:=by
 obtain⟨v,v1,v2,k⟩:=aHE (x:=x) (by omega) (m:=60) (by omega);unfold k5;rw[v1,oB];by_cases h:v<24
 ·exact⟨0,by rw[dT h,bL],dn.zero⟩
 ·have s:=aQy (a:=v) (m:=9) v2 (by omega);have t:=aQy (a:=v/9) (m:=3) (by omega) (by omega);obtain⟨r,e,f⟩:=aES (p:=v%9-4) (q:=1+v/9%3) (m:=4) (by omega) (by omega) (by omega) (by omega);exact⟨r,by rw[dF h,bG,vM v2 (by omega),oB,tI (by omega),oB,xN v2 (by omega) (by omega),oB,vM (by omega) (by omega),oB,tI (by omega),oB,e,oB],f⟩
def vn(l:List Int)(j:Nat):Rat:=((cE l (j:Int) 60).bind k5).getD 0
def mvn(l:List Int)(r c:Nat):Rat:=vn l (3+6*r+c)
def vw(l:List Int)(i:Nat):Rat:=((cE l ((40+i:Nat):Int) 13).bind fun a=>(cE l ((47+i:Nat):Int) 2).bind fun b=>qof (a-8) (1+b)).getD 0
theorem aQP{l:List Int}(f:aAB l)(r c:Nat):∃v,cE l ((3+6*r+c:Nat):Int) 60=some v∧k5 v=some (mvn l r c)∧dn 6 1 24 (mvn l r c):=by
 obtain⟨v,v1,v2,h⟩:=aFw f ((3+6*r+c:Nat):Int) (m:=60) (by omega);obtain⟨x,x1,j⟩:=aNS ⟨v2,h⟩;have e:mvn l r c=x:=by unfold mvn vn;rw[v1,oB,x1];rfl
 exact⟨v,v1,by rw[e];exact x1,by rw[e];exact j⟩
theorem aS0{l:List Int}(f:aAB l)(i:Nat):∃a b,cE l ((40+i:Nat):Int) 13=some a∧aV (a-8)=some (a-8)∧cE l ((47+i:Nat):Int) 2=some b∧aV (1+b)=some (1+b)∧qof (a-8) (1+b)=some (vw l i)∧dn 6 1 48 (vw l i):=by
 obtain⟨a,a1,a2,a3⟩:=aFw f ((40+i:Nat):Int) (m:=13) (by omega);obtain⟨b,h,b2,s⟩:=aFw f ((47+i:Nat):Int) (m:=2) (by omega);obtain⟨r,j,k⟩:=aES (p:=a-8) (q:=1+b) (m:=8) (by omega) (by omega) (by omega) (by omega);have e:vw l i=r:=by unfold vw;rw[a1,oB,h,oB,j];rfl
 exact⟨a,b,a1,tI (by omega),h,tI (by omega),by rw[e];exact j,by rw[e];exact k⟩
theorem aGf{l:List Int}(e:aAB l)(r c:Nat):dn 6 1 24 (mvn l r c):=by
 obtain⟨_,_,_,h⟩:=aQP e r c;exact h
theorem aV8{l:List Int}(e:aAB l)(i:Nat):dn 6 1 48 (vw l i):=by
 obtain⟨_,_,_,_,_,_,_,h⟩:=aS0 e i;exact h
theorem aOf{l:List Int}(e:aAB l)(r c:Nat):Bd 12 (mvn l r c):=y6 (aJZ (aGf e r c) (by omega))
theorem aL7{l:List Int}(f:aAB l){n r:Nat}(hr:r≤10)(j:n≤10)(K:Nat):∀(t i k:Nat),i+t=n→t<k→fZ K l (n:Int) (r:Int) k (mp (mvn l r) i) (i:Int)=some (mp (mvn l r) n)
 |0,i,k,q,e=>by
  have:i=n:=by omega
  subst this;obtain⟨h,rfl,_⟩:=aT e;simp only[fZ,dF (show¬(i:Int)<(i:Int) by omega),bG]
 |t+1,i,k,q,e=>by
  obtain⟨h,rfl,s⟩:=aT e;have u:aV (6*(r:Int))=some ((6*r:Nat):Int):=xH (m:=0) (by omega) (by omega);have x:aV (3+((6*r:Nat):Int))=some ((3+6*r:Nat):Int):=xH (m:=0) (by omega) (by omega);have y:aV (((3+6*r:Nat):Int)+(i:Int))=some ((3+6*r+i:Nat):Int):=xH (m:=0) (by omega) (by omega);obtain⟨v,v1,v2,_⟩:=aQP f r i;simp only[fZ,dT (show(i:Int)<(n:Int) by omega),bL,u,x,y,oB,v1,v2,apM (g:=mvn l r) (i:=i) (by omega),qG (i:=i) (by omega)];exact aL7 f hr j K t (i+1) h (by omega) (by omega)
theorem aLw{l:List Int}(e:aAB l){n:Nat}(h:n≤10){K:Nat}(j:n<K):∀(t i k:Nat),i+t=n→t<k→eW K l (n:Int) k (mp (vw l) i) (mx (mvn l) i n) (i:Int)=some (mp (vw l) n,mx (mvn l) n n)
 |0,i,k,u,f=>by
  have:i=n:=by omega
  subst this;obtain⟨q,rfl,_⟩:=aT f;simp only[eW,dF (show¬(i:Int)<(i:Int) by omega),bG]
 |t+1,i,k,u,f=>by
  obtain⟨q,rfl,x⟩:=aT f;have s:=aL7 e (n:=n) (r:=i) (by omega) h K n 0 K (by omega) j;simp only[Int.natCast_zero,wD]at s;have y:aV (40+(i:Int))=some ((40+i:Nat):Int):=xH (m:=0) (by omega) (by omega);have z:aV (47+(i:Int))=some ((47+i:Nat):Int):=xH (m:=0) (by omega) (by omega);have F:tC (mx (mvn l) i n) [mp (mvn l i) n]=some (mx (mvn l) (i+1) n):=apM (g:=fun r=>mp (mvn l r) n) (by omega);obtain⟨a,b,a1,a2,G,b2,c1,_⟩:=aS0 e i;simp only[eW,dT (show(i:Int)<(n:Int) by omega),bL,s,oB,nR,F,y,a1,a2,z,G,b2,c1,apM (g:=vw l) (i:=i) (by omega),qG (i:=i) (by omega)];exact aLw e h j t (i+1) q (by omega) (by omega)
def gm(l:List Int)(n i k:Nat):Rat:=sm (fun c=>mvn l i c*mvn l k c) n
def gmd(d:Bool)(l:List Int)(n i k:Nat):Rat:=if d=true∧k=i then gm l n i i+1 else gm l n i k
theorem aQb{f:Nat→Rat}{D e M:Nat}:∀n,(∀c,c<n→dn D e M (f c))→dn D e (n*M) (sm f n)
 |0,_=>dn.zero
 |n+1,h=>by
  rw[Nat.succ_mul];exact(aQb n fun c hc=>h c (by omega)).add (h n (by omega))
theorem aLJ{l:List Int}(e:aAB l){n:Nat}(f:n≤6)(i k:Nat):dn 6 2 3500 (gm l n i k):=
 (aQb (M:=576) n fun c _=>(aGf e i c).mul (aGf e k c)).mono (by omega)
theorem aI7:dn 6 2 36 (1:Rat):=⟨36,by decide+kernel,by decide⟩
theorem aQm{d:Bool}{l:List Int}(e:aAB l){n:Nat}(f:n≤6)(i k:Nat):dn 6 2 4000 (gmd d l n i k):=by
 unfold gmd;split
 ·exact((aLJ e f i i).add aI7).mono (by omega)
 ·exact(aLJ e f i k).mono (by omega)
theorem aOp{l:List Int}(e:aAB l){n:Nat}(h:n≤6){K:Nat}(f:n<K)(i k:Nat):lV K (mp (mvn l i) n) (mp (mvn l k) n)=some (gm l n i k):=
 (aOh (fun c _=>aOf e i c) (fun c _=>aOf e k c) (by omega) (by omega) f).2
theorem aLM{l:List Int}(f:aAB l){n i:Nat}(h:i<n)(j:n≤6){K:Nat}(q:n<K):∀(t c k:Nat),c+t=n→t<k→fY K (n:Int) (mx (mvn l) n n) (i:Int) k (mp (gm l n i) c) (c:Int)=some (mp (gm l n i) n)
 |0,c,k,hc,e=>by
  have:c=n:=by omega
  subst this;obtain⟨s,rfl,_⟩:=aT e;simp only[fY,dF (show¬(c:Int)<(c:Int) by omega),bG]
 |t+1,c,k,hc,e=>by
  obtain⟨s,rfl,u⟩:=aT e;simp only[fY,dT (show(c:Int)<(n:Int) by omega),bL,yO (g:=mvn l) (w:=n) h,yO (g:=mvn l) (w:=n) (show c<n by omega),oB,aOp f j q i c,apM (g:=gm l n i) (i:=c) (by omega),qG (i:=c) (by omega)];exact aLM f h j q t (c+1) s (by omega) (by omega)
theorem aMM{l:List Int}(f:aAB l){n i:Nat}(h:i<n)(j:n≤6){K:Nat}(q:n<K):∀(t c k:Nat),c+t=n→t<k→fV K (n:Int) (mx (mvn l) n n) (i:Int) k (mp (gm l n i) c) (c:Int)=some (mp (gm l n i) n)
 |0,c,k,hc,e=>by
  have:c=n:=by omega
  subst this;obtain⟨s,rfl,_⟩:=aT e;simp only[fV,dF (show¬(c:Int)<(c:Int) by omega),bG]
 |t+1,c,k,hc,e=>by
  obtain⟨s,rfl,u⟩:=aT e;simp only[fV,dT (show(c:Int)<(n:Int) by omega),bL,yO (g:=mvn l) (w:=n) h,yO (g:=mvn l) (w:=n) (show c<n by omega),oB,aOp f j q i c,apM (g:=gm l n i) (i:=c) (by omega),qG (i:=c) (by omega)];exact aMM f h j q t (c+1) s (by omega) (by omega)
theorem aVx:Bd 12 (1:Rat):=y6 (aI7.mono (by omega))
theorem aMW{d:Bool}{l:List Int}{n i:Nat}(k:i<n):(if d=true then mp (gN (gm l n i) i (gm l n i i+1)) n else mp (gm l n i) n)=mp (gmd d l n i) n:=by
 cases d with
 |true=>
  rw[if_pos rfl];refine bW fun j f=>?_
  unfold gmd;by_cases e:j=i
  ·subst e;rw[aN,if_pos ⟨rfl,rfl⟩]
  ·rw[aZ e,if_neg (fun h=>e h.2)]
 |false=>
  rw[if_neg (by decide)];exact bW fun j f=>by unfold gmd;rw[if_neg (fun h=>absurd h.1 (by decide))]
theorem aM3{l:List Int}(j:aAB l){n:Nat}{v5:Int}(q:n≤6){K:Nat}(s:n<K):∀(t i k:Nat),i+t=n→t<k→dH K (n:Int) v5 (mx (mvn l) n n) k (mx (gmd (v5==2) l n) i n) (i:Int)=some (mx (gmd (v5==2) l n) n n)
 |0,i,k,F,u=>by
  have:i=n:=by omega
  subst this;obtain⟨x,rfl,_⟩:=aT u;simp only[dH,dF (show¬(i:Int)<(i:Int) by omega),bG]
 |t+1,i,k,F,u=>by
  obtain⟨x,rfl,G⟩:=aT u;have y:=aLM j (n:=n) (i:=i) (by omega) q s n 0 K (by omega) s;simp only[Int.natCast_zero,wD]at y;have h:tC (mx (gmd (v5==2) l n) i n) [mp (gmd (v5==2) l n i) n]=some (mx (gmd (v5==2) l n) (i+1) n):=apM (g:=fun r=>mp (gmd (v5==2) l n r) n) (by omega);have e:=aMW (d:=v5==2) (l:=l) (show i<n by omega);have I:Bd 12 (gm l n i i):=y6 ((aLJ j q i i).mono (by omega));have ih:=aM3 j (v5:=v5) q s t (i+1) x (by omega) (by omega);simp only[dH,dT (show(i:Int)<(n:Int) by omega),bL,y,oB,nL];cases z:(v5==2) with
  |true=>
   rw[z]at h e ih;rw[if_pos rfl]at e;simp only[bL,cD (f:=gm l n i) (show i<n by omega),oB,aEo,aBL I aVx (by omega) (by omega),vA (f:=gm l n i) (show i<n by omega),e,h,qG (i:=i) (by omega)];exact ih
  |false=>
   rw[z]at h e ih;rw[if_neg (by decide)]at e;simp only[bG,e,h,oB,qG (i:=i) (by omega)];exact ih
theorem aNc{l:List Int}(j:aAB l){n:Nat}{v5:Int}(q:n≤6){K:Nat}(s:n<K):∀(t i k:Nat),i+t=n→t<k→dC K (n:Int) v5 (mx (mvn l) n n) k (mx (gmd (v5==2) l n) i n) (i:Int)=some (mx (gmd (v5==2) l n) n n)
 |0,i,k,F,u=>by
  have:i=n:=by omega
  subst this;obtain⟨x,rfl,_⟩:=aT u;simp only[dC,dF (show¬(i:Int)<(i:Int) by omega),bG]
 |t+1,i,k,F,u=>by
  obtain⟨x,rfl,G⟩:=aT u;have y:=aMM j (n:=n) (i:=i) (by omega) q s n 0 K (by omega) s;simp only[Int.natCast_zero,wD]at y;have h:tC (mx (gmd (v5==2) l n) i n) [mp (gmd (v5==2) l n i) n]=some (mx (gmd (v5==2) l n) (i+1) n):=apM (g:=fun r=>mp (gmd (v5==2) l n r) n) (by omega);have e:=aMW (d:=v5==2) (l:=l) (show i<n by omega);have I:Bd 12 (gm l n i i):=y6 ((aLJ j q i i).mono (by omega));have ih:=aNc j (v5:=v5) q s t (i+1) x (by omega) (by omega);simp only[dC,dT (show(i:Int)<(n:Int) by omega),bL,y,oB,nV];cases z:(v5==2) with
  |true=>
   rw[z]at h e ih;rw[if_pos rfl]at e;simp only[bL,cD (f:=gm l n i) (show i<n by omega),oB,aEo,aBL I aVx (by omega) (by omega),vA (f:=gm l n i) (show i<n by omega),e,h,qG (i:=i) (by omega)];exact ih
  |false=>
   rw[z]at h e ih;rw[if_neg (by decide)]at e;simp only[bG,e,h,oB,qG (i:=i) (by omega)];exact ih
theorem aVR{α:Type}{f:Nat→α}{n m:Nat}(h:m≤n):slL (mp f n) 0 (m:Int)=some (mp f m):=by
 unfold slL;rw[if_pos ⟨by omega,by omega,by rw[aO];omega⟩];congr 1;apply List.ext_getElem?;intro j;have k:(0:Int).toNat=0:=rfl;rw[k,List.drop_zero,List.getElem?_take,Int.toNat_natCast,Nat.sub_zero];by_cases e:j<m
 ·rw[if_pos e,wJ (by omega),wJ e]
 ·rw[if_neg e,List.getElem?_eq_none (by rw[aO];omega)]
def PB6(n:Nat)(M:Nat→Nat→Rat)(q:Nat→Rat):Prop:=(∀i c,i<n→c<n→dn 6 2 4000 (M i c))∧∀i,i<n→dn 6 2 4000 (q i)
theorem aLz{l:List Int}(hl:aAB l){most:Nat}(hm:most≤6)(hm1:4≤most):∃(n:Nat) (M:Nat→Nat→Rat) (q:Nat→Rat),n≤most∧PB6 n M q∧∀K,100≤K→gA K l (most:Int)=some (mx M n n,mp q n):=by
 obtain⟨v,v1,v2,v3⟩:=aFw hl 0 (m:=((most+1:Nat):Int)) (by omega);obtain⟨w,w1,w2,w3⟩:=aFw hl 1 (m:=5) (by omega);obtain⟨n,rfl⟩:∃n:Nat,v=n:=⟨v.toNat,by omega⟩;have e0:aV ((most:Int)+1)=some ((most+1:Nat):Int):=qG (by omega);have hq:∀i,dn 6 2 4000 (vw l i):=fun i=>aJZ (aV8 hl i) (by omega)
 have hM:∀i c,dn 6 2 4000 (mvn l i c):=fun i c=>aJZ (aGf hl i c) (by omega)
 have hF:∀K,100≤K→gA K l (most:Int)=cU K l (n:Int) w (mp (vw l) n) (mx (mvn l) n n):=fun K hK=>by
  have h1:=aLw hl (n:=n) (by omega) (K:=K) (by omega) n 0 K (by omega) (by omega);have z:mx (mvn l) 0 n=[]:=rfl;simp only[Int.natCast_zero,wD,z]at h1;simp only[gA,e0,oB,v1,w1,h1]
 have hG:∀K,100≤K→dH K (n:Int) w (mx (mvn l) n n) K [] 0=some (mx (gmd (w==2) l n) n n):=fun K hK=>by
  have h1:=aM3 hl (n:=n) (v5:=w) (by omega) (K:=K) (by omega) n 0 K (by omega) (by omega);have z:mx (gmd (w==2) l n) 0 n=[]:=rfl;simpa only[Int.natCast_zero,z] using h1
 have hG':∀K,100≤K→dC K (n:Int) w (mx (mvn l) n n) K [] 0=some (mx (gmd (w==2) l n) n n):=fun K hK=>by
  have h1:=aNc hl (n:=n) (v5:=w) (by omega) (K:=K) (by omega) n 0 K (by omega) (by omega);have z:mx (gmd (w==2) l n) 0 n=[]:=rfl;simpa only[Int.natCast_zero,z] using h1
 by_cases c0:w=0
 ·exact⟨n,mvn l,vw l,by omega,⟨fun i c _ _=>hM i c,fun i _=>hq i⟩,fun K hK=>by rw[hF K hK];unfold cU;rw[qT c0,bL]⟩
 by_cases c1:n=0
 ·exact⟨n,mvn l,vw l,by omega,⟨fun i c _ _=>hM i c,fun i _=>hq i⟩,fun K hK=>by rw[hF K hK];unfold cU;rw[qF c0,bG,qT (show(n:Int)=0 by omega),bL]⟩
 by_cases c4:w=4
 ·by_cases cn:4≤n
  ·obtain⟨m1,a1,a2,a3⟩:=aFw hl 2 (m:=4) (by omega);obtain⟨m2,b1,b2,b3⟩:=aFw hl 3 (m:=5) (by omega);obtain⟨mu,p1,p2⟩:=aES (p:=m1) (q:=2) (m:=3) (by omega) (by omega) (by omega) (by omega);obtain⟨c,r1,r2⟩:=aES (p:=m2-2) (q:=2) (m:=2) (by omega) (by omega) (by omega) (by omega);obtain⟨two,s1,s2⟩:=aES (p:=2) (q:=1) (m:=2) (by omega) (by omega) (by omega) (by omega);obtain⟨mi,t1,t2⟩:=aES (p:=-1) (q:=1) (m:=1) (by omega) (by omega) (by omega) (by omega);have d2:=aJZ p2 (by omega);have d3:=aJZ r2 (by omega);have d4:=aJZ s2 (by omega);have d5:=aJZ t2 (by omega);have d6:dn 6 2 4000 (1:Rat):=aI7.mono (by omega);have n1:=yU (y6 d3) (by omega);have n2:=yU (y6 d4) (by omega);have sl:slL (mp (vw l) n) 0 3=some (mp (vw l) 3):=aVR (m:=3) (by omega);have ap1:tC ([]:List Rat) (mp (vw l) 3)=some (mp (vw l) 3):=aBx (by rw[aO];simp);have ap2:tC (mp (vw l) 3) [(0:Rat)]=some (mp (gN (vw l) 3 0) 4):=by
    rw[apS (by rw[aO];omega),aAL (gN (vw l) 3 0) 3,aN,bW (f:=vw l) (g:=gN (vw l) 3 0) fun j hj=>(aZ (by omega)).symm]
   refine⟨4,fun i j=>at' (([[two,c,-c,0],[c,two,-two,1],[-c,-two,two,1],[mu,mi,mi,0]]:List (List Rat)).getD i []) j,gN (vw l) 3 0,by omega,⟨fun i j hi hj=>?_,fun i hi=>?_⟩,fun K hK=>?_⟩
   ·obtain rfl|rfl|rfl|rfl:i=0∨i=1∨i=2∨i=3:=by omega
    all_goals
     obtain rfl|rfl|rfl|rfl:j=0∨j=1∨j=2∨j=3:=by omega
     all_goals first|exact d2|exact d3|exact d4|exact d5|exact d6|exact d3.neg|exact d4.neg|exact dn.zero
   ·by_cases e:i=3
    ·subst e;rw[aN];exact dn.zero
    ·rw[aZ e];exact hq i
   ·rw[hF K hK];unfold cU;rw[qF c0,bG,qF (show¬(n:Int)=0 by omega),bG,qT c4,bL,dT (show(4:Int)≤(n:Int) by omega),bL];simp only[aEo,oB,a1,p1,b1,tI (show -9223372036854775808≤m2-2∧m2-2≤9223372036854775807 by omega),r1,s1,t1,n1,n2,sl,ap1,ap2];rfl
  ·refine⟨n,gmd (w==2) l n,vw l,by omega,⟨fun i c _ _=>aQm hl (by omega) i c,fun i _=>hq i⟩,fun K hK=>?_⟩;rw[hF K hK];unfold cU;rw[qF c0,bG,qF (show¬(n:Int)=0 by omega),bG,qT c4,bL,dF (show¬(4:Int)≤(n:Int) by omega),bG,hG' K hK,oB,nH]
 ·refine⟨n,gmd (w==2) l n,vw l,by omega,⟨fun i c _ _=>aQm hl (by omega) i c,fun i _=>hq i⟩,fun K hK=>?_⟩;rw[hF K hK];unfold cU;rw[qF c0,bG,qF (show¬(n:Int)=0 by omega),bG,qF c4,bG,hG K hK,oB,nQ]
theorem aL6{n:Nat}{M:Nat→Nat→Rat}{q:Nat→Rat}(h:PB6 n M q)(j:n≤6):Sm n 200 (pH M q n):=fun T b s=>by
 have e:((6^2:Nat):Rat)=36:=rfl;refine(s.bd (D:=36) (M:=4000) (k:=200) (by decide+kernel) (fun i c f hc=>?_) (by omega) ?_)
 ·have one:xX 4000 ((1:Rat)*36):=⟨36,by decide+kernel,by decide⟩;have neg:xX 4000 ((-1:Rat)*36):=⟨-36,by decide+kernel,by decide⟩;unfold pH;split
  ·split
   ·exact one
   ·exact⟨0,by decide+kernel,by decide⟩
  ·split
   ·rw[←e];exact(h.1 i (c-n) f (by omega)).neg
   ·split
    ·exact neg
    ·rw[←e];exact h.2 i f
 ·exact Nat.lt_of_le_of_lt (Nat.pow_le_pow_right (by decide) j) (by decide)
theorem aKh{n most:Nat}:∀(f:Nat) (T:Nat→Nat→Rat) (b:Nat→Nat) (r c cnt:Nat),(lem n most f T b r c cnt).2≠0→(lem n most f T b r c cnt).1=⟨[],[],0⟩∧((lem n most f T b r c cnt).2=15∨(lem n most f T b r c cnt).2=16)
 |0,T,b,r,c,cnt,h=>⟨rfl,Or.inr rfl⟩
 |f+1,T,b,r,c,cnt,h=>by
  unfold lem at h ⊢;split at h
  ·rename_i e;rw[if_pos e];exact⟨rfl,Or.inr rfl⟩
  ·rename_i e;rw[if_neg e];split at h
   ·exact absurd rfl h
   ·rename_i j;rw[if_neg j];split at h
    ·exact⟨rfl,Or.inl rfl⟩
    ·exact aKh f _ _ _ _ _ h
theorem aHF{n most:Nat}{M:Nat→Nat→Rat}{q:Nat→Rat}(h:(zJ M q n most).2≠0):(zJ M q n most).1=⟨[],[],0⟩∧((zJ M q n most).2=15∨(zJ M q n most).2=16):=by
 unfold zJ at h ⊢;cases hneg:ng q n 0
 ·rw[hneg,bG]at h;exact absurd rfl h
 ·rw[hneg,bL]at h;rw[bL];exact aKh _ _ _ _ _ _ h
theorem aHX{l:List Rat}{b:Nat}(hb:Bds b l)(hB:b≤1000000)(j:l.length≤1000000)(K:Nat):∀(t i k:Nat),i+t=l.length→t<k→kF K l l k (i:Int)=some (.go ())
 |0,i,k,q,e=>by
  obtain⟨f,rfl,_⟩:=aT e;simp only[kF,dF (show¬(i:Int)<(l.length:Int) by omega),bG]
 |t+1,i,k,q,e=>by
  obtain⟨f,rfl,s⟩:=aT e;have h:=hb _ (aET (l:=l) (i:=i) (by omega));simp only[kF,dT (show(i:Int)<(l.length:Int) by omega),bL,aNP (l:=l) (i:=i) (by omega),oB,aCe h h (by omega) (by omega),decide_true,Bool.not_true,bG,qG (i:=i) (by omega)];exact aHX hb hB j K t (i+1) f (by omega) (by omega)
theorem aUc{l:List Rat}{b:Nat}(hb:Bds b l)(hB:b≤1000000)(f:l.length≤1000000){K:Nat}(h:l.length<K):lD K l l=some true:=by
 have e:=aHX hb hB f K l.length 0 K (by omega) h;simp only[Int.natCast_zero]at e;simp only[lD,nF (rfl:(l.length:Int)=(l.length:Int)),bG,e,oB,rM]
set_option maxRecDepth 100000 in
theorem aRm(K:Nat):kB (K+60)=some true:=by kernel_rfl
theorem aDp{K:Nat}(e:60≤K):kB K=some true:=by
 obtain⟨k,rfl⟩:=Nat.exists_eq_add_of_le e;rw[Nat.add_comm];exact aRm k
def btc(c i:Nat):Bool:=ian ((c:Int).fdiv (2^(min (i:Int).toNat 64))) 1==1
theorem aQG{c n:Nat}{x:List Bool}(h:x.length=n)(y:n≤1000)(K:Nat):∀(t i k:Nat) (f:Nat→Bool),i+t=n→t<k→(∀j,j<i→f j=btc c j)→eE K (c:Int) x k (mp f n) (i:Int)=some (mp (btc c) n)
 |0,i,k,f,z,q,s=>by
  obtain⟨u,rfl,_⟩:=aT q;simp only[eE,h,dF (show¬(i:Int)<(n:Int) by omega),bG];rw[bW fun j F=>s j (by omega)]
 |t+1,i,k,f,z,q,s=>by
  obtain⟨u,rfl,_⟩:=aT q;have G:aQM (c:Int) (i:Int)=some ((c:Int).fdiv (2^(min (i:Int).toNat 64))):=if_neg (by omega);simp only[eE,h,dT (show(i:Int)<(n:Int) by omega),bL,G,oB,cD (f:=f) (show i<n by omega),vA (f:=f) (show i<n by omega),qG (i:=i) (by omega)];exact aQG h y K t (i+1) u _ (by omega) (by omega) (fun j F=>by
   by_cases e:j=i
   ·rw[e,aN];rfl
   ·rw[aZ e];exact s j (by omega))
theorem aOr{n N:Nat}(u:n≤8)(x:N≤1000){yF:List Bool→List (List Rat)→Option (Nat×List (List Rat))}{out:Nat→List (List Rat)}(f:∀c,c<N→yF (mp (btc c) n) (out c)=some (0,out (c+1))){K:Nat}(h:n<K):∀(t c k:Nat),c+t=N→t<k→dA K (n:Int) yF (N:Int) k (out c) (c:Int)=some (.go (out N))
 |0,c,k,hc,e=>by
  have:c=N:=by omega
  subst this;obtain⟨q,rfl,_⟩:=aT e;simp only[dA,dF (show¬(c:Int)<(c:Int) by omega),bG]
 |t+1,c,k,hc,e=>by
  obtain⟨q,rfl,_⟩:=aT e;have s:=aQG (c:=c) (aO (fun _=>false) n) (show n≤1000 by omega) K n 0 K (fun _=>false) (by omega) h (fun j y=>absurd y (by omega));simp only[Int.natCast_zero]at s;have F:Nat.beq 0 0=true:=rfl;simp only[dA,dT (show(c:Int)<(N:Int) by omega),bL,aC4 (n:=n) (z:=false) (by omega),oB,s,lX,f c (by omega),F,qG (i:=c) (by omega)];exact aOr u x f h t (c+1) q (by omega) (by omega)
def zG(b:Nat→Bool):Nat→List Nat
 |0=>[]
 |i+1=>bif b i then zG b i++[i] else zG b i
theorem aLl{b:Nat→Bool}:∀n,∀j∈zG b n,j<n
 |0,j,h=>absurd h List.not_mem_nil
 |n+1,j,h=>by
  unfold zG at h;cases hb:b n with
  |true=>
   rw[hb,bL]at h;rcases List.mem_append.1 h with h|h
   ·have:=aLl n j h;omega
   ·rw[List.mem_singleton.1 h];omega
  |false=>rw[hb,bG]at h;have:=aLl n j h;omega
theorem aI8{b:Nat→Bool}:∀n,(zG b n).length≤n
 |0=>Nat.le_refl _
 |n+1=>by
  unfold zG;have:=aI8 (b:=b) n;cases b n with
  |true=>rw[bL,List.length_append];simp;exact this
  |false=>rw[bG];omega
theorem aLi{b:Nat→Bool}{n i:Nat}(h:i<(zG b n).length):qZ (zG b n) i<n:=aLl n _ (aEs h)
theorem aL9{b:Nat→Bool}{n:Nat}(q:n≤1000)(K:Nat):∀(t i k:Nat),i+t=n→t<k→d8 K (mp b n) k (yM (zG b i)) (i:Int)=some (yM (zG b n))
 |0,i,k,s,h=>by
  have:i=n:=by omega
  subst this;obtain⟨j,rfl,_⟩:=aT h;simp only[d8,aO,dF (show¬(i:Int)<(i:Int) by omega),bG]
 |t+1,i,k,s,h=>by
  obtain⟨j,rfl,_⟩:=aT h;have ih:=aL9 (b:=b) q K t (i+1) j (by omega) (by omega);have u:=aI8 (b:=b) i;simp only[d8,aO,dT (show(i:Int)<(n:Int) by omega),bL,cD (f:=b) (show i<n by omega),oB];cases hb:b i with
  |true=>
   have e:zG b (i+1)=zG b i++[i]:=by show(bif b i then _ else _)=_;rw[hb,bL]
   rw[e]at ih;simp only[bL,apI (l:=zG b i) (k:=i) (by omega),oB,qG (i:=i) (by omega)];exact ih
  |false=>
   have e:zG b (i+1)=zG b i:=by show(bif b i then _ else _)=_;rw[hb,bG]
   rw[e]at ih;simp only[bG,qG (i:=i) (by omega),oB];exact ih
def sbm(M:Nat→Nat→Rat)(at0:List Nat)(i k:Nat):Rat:=M (qZ at0 i) (qZ at0 k)
def sbq(q:Nat→Rat)(at0:List Nat)(i:Nat):Rat:=-(q (qZ at0 i))
theorem aJw{M:Nat→Nat→Rat}{n i:Nat}{at0:List Nat}(x:n≤1000)(hm:at0.length≤1000)(h:∀j,j<at0.length→qZ at0 j<n)(s:i<at0.length)(K:Nat):∀(t c k:Nat),c+t=at0.length→t<k→fH K (mx M n n) (yM at0) ((qZ at0 i:Nat):Int) k (mp (sbm M at0 i) c) (c:Int)=some (mp (sbm M at0 i) at0.length)
 |0,c,k,hc,q=>by
  have:c=at0.length:=by omega
  subst this;obtain⟨u,rfl,_⟩:=aT q;simp only[fH,oJ,dF (show¬(at0.length:Int)<(at0.length:Int) by omega),bG]
 |t+1,c,k,hc,q=>by
  obtain⟨u,rfl,_⟩:=aT q;simp only[fH,oJ,dT (show(c:Int)<(at0.length:Int) by omega),bL,rdI (ps:=at0) (show c<at0.length by omega),oB,yO (g:=M) (w:=n) (h i s),cD (f:=M (qZ at0 i)) (h c (by omega))];have e:tC (mp (sbm M at0 i) c) [M (qZ at0 i) (qZ at0 c)]=some (mp (sbm M at0 i) (c+1)):=apM (g:=sbm M at0 i) (by omega);simp only[e,oB,qG (i:=c) (by omega)];exact aJw x hm h s K t (c+1) u (by omega) (by omega)
theorem aNg{M:Nat→Nat→Rat}{q:Nat→Rat}{n B:Nat}{at0:List Nat}(s:n≤1000)(hm:at0.length≤1000)(e:∀j,j<at0.length→qZ at0 j<n)(hq:∀i,i<n→Bd B (q i))(hB:B≤1073741824){K:Nat}(u:at0.length<K):∀(t i k:Nat),i+t=at0.length→t<k→dY K (mx M n n) (mp q n) (yM at0) k (mp (sbq q at0) i) (mx (sbm M at0) i at0.length) (i:Int)=some (mp (sbq q at0) at0.length,mx (sbm M at0) at0.length at0.length)
 |0,i,k,z,h=>by
  have:i=at0.length:=by omega
  subst this;obtain⟨x,rfl,_⟩:=aT h;simp only[dY,oJ,dF (show¬(at0.length:Int)<(at0.length:Int) by omega),bG]
 |t+1,i,k,z,h=>by
  obtain⟨x,rfl,_⟩:=aT h;have y:=aJw (M:=M) s hm e (show i<at0.length by omega) K at0.length 0 K (by omega) u;simp only[Int.natCast_zero,wD]at y;have F:tC (mx (sbm M at0) i at0.length) [mp (sbm M at0 i) at0.length]=some (mx (sbm M at0) (i+1) at0.length):=apM (g:=fun r=>mp (sbm M at0 r) at0.length) (by omega);have G:tC (mp (sbq q at0) i) [-(q (qZ at0 i))]=some (mp (sbq q at0) (i+1)):=apM (g:=sbq q at0) (by omega);have hp:=e i (by omega);simp only[dY,oJ,dT (show(i:Int)<(at0.length:Int) by omega),bL,rdI (ps:=at0) (show i<at0.length by omega),oB,y,mX,F,cD (f:=q) hp,yU (hq _ hp) hB,G,qG (i:=i) (by omega)];exact aNg s hm e hq hB u t (i+1) x (by omega) (by omega)
def plc(at0:List Nat)(x:List Rat):Nat→Nat→Rat
 |0=>fun _=>0
 |i+1=>gN (plc at0 x i) (qZ at0 i) (at' x i)
theorem aQB{at0:List Nat}{x:List Rat}{B:Nat}(e:Bds B x)(hB:1≤B):∀m,m≤x.length→∀j,Bd B (plc at0 x m j)
 |0,_,j=>Bd.zero.mono hB
 |m+1,hm,j=>by
  unfold plc gN;split
  ·exact e _ (aET (by omega))
  ·exact aQB e hB m (by omega) j
theorem aJ0{n:Nat}{at0:List Nat}{x:List Rat}{e:Int}(hm:at0.length≤1000)(q:∀j,j<at0.length→qZ at0 j<n)(u:x.length=at0.length)(K:Nat):∀(t i k:Nat),i+t=at0.length→t<k→fG K (yM at0) (x,e) k (mp (plc at0 x i) n) (i:Int)=some (mp (plc at0 x at0.length) n)
 |0,i,k,y,h=>by
  have:i=at0.length:=by omega
  subst this;obtain⟨s,rfl,_⟩:=aT h;simp only[fG,oJ,dF (show¬(at0.length:Int)<(at0.length:Int) by omega),bG]
 |t+1,i,k,y,h=>by
  obtain⟨s,rfl,_⟩:=aT h;have hp:=q i (by omega);simp only[fG,oJ,dT (show(i:Int)<(at0.length:Int) by omega),bL,rdI (ps:=at0) (show i<at0.length by omega),oB,aNP (l:=x) (i:=i) (by omega),cD (f:=plc at0 x i) hp,vA (f:=plc at0 x i) hp,qG (i:=i) (by omega)];exact aJ0 hm q u K t (i+1) s (by omega) (by omega)
def cnd(M:Nat→Nat→Rat)(q:Nat→Rat)(at0:List Nat):Option (Nat→Rat):=
 if at0.length=0 then some (fun _=>0)
 else if aG5 (sbm M at0) at0.length at0.length=at0.length then(match aCg (sbm M at0) (sbq q at0) at0.length at0.length with
  |none=>none
  |some x=>some (plc at0 x at0.length))
 else none
theorem aQE{M:Nat→Nat→Rat}{q:Nat→Rat}{n B:Nat}{b:Nat→Bool}(hM:qX n n B M)(hq:∀i,i<n→Bd B (q i))(hn:n≤6)(y:2≤B)(hB:B≤5000){K:Nat}(hK:100≤K):
  nD K (mx M n n) (mp q n) (mp b n)=some (match cnd M q (zG b n) with|none=>([],false)|some z=>(mp z n,true))∧∀z,cnd M q (zG b n)=some z→∀j,Bd (5^6*B) (z j):=by
 have hl:=aI8 (b:=b) n;have k:∀j,j<(zG b n).length→qZ (zG b n) j<n:=fun j O=>aLi O
 have s:=aL9 (b:=b) (show n≤1000 by omega) K n 0 K (by omega) (by omega);have F:yM (zG b 0)=[]:=rfl;rw[F,Int.natCast_zero]at s;generalize hat:zG b n=at0 at *;have t:=aNg (M:=M) (q:=q) (show n≤1000 by omega) (show at0.length≤1000 by omega) k hq (by omega) (show at0.length<K by omega) at0.length 0 K (by omega) (by omega);have z1:mx (sbm M at0) 0 at0.length=[]:=rfl;rw[z1,wD,Int.natCast_zero]at t;simp only[nD,s,oB,nN,t,nX,aC4 (n:=n) (z:=(0:Rat)) (by omega),oJ,aO];unfold cnd;by_cases L:at0.length=0
 ·rw[if_pos L];simp only[qT (show(at0.length:Int)=0 by omega),bL];exact⟨trivial,fun z h j=>by cases h;exact Bd.zero.mono (by have:0<5^6*B:=Nat.mul_pos (by decide) (by omega);omega)⟩
 rw[if_neg L];have G:qX at0.length at0.length B (sbm M at0):=fun i c I hc=>hM _ _ (k i I) (k c hc)
 have u:∀i,i<at0.length→Bd B (sbq q at0 i):=fun i I=>(hq _ (k i I)).neg
 have J:5^at0.length*B≤5^6*B:=Nat.mul_le_mul_right B (Nat.pow_le_pow_right (by decide) (by omega));have hc:Cok at0.length at0.length:=aEk _;have U:=aRL G hc y (by omega) (show at0.length≤64 by omega) (show at0.length≤64 by omega) (show at0.length+at0.length<K by omega);have V:=aNW G u hc y (by omega) (show at0.length≤64 by omega) (show at0.length≤63 by omega) (show at0.length+1+at0.length<K by omega);simp only[qF (show¬(at0.length:Int)=0 by omega),bG,U,oB,nF (rfl:(0:Int)=0)];by_cases hr:aG5 (sbm M at0) at0.length at0.length=at0.length
 ·rw[if_pos hr];simp only[hr,nF (rfl:(at0.length:Int)=(at0.length:Int)),bG,V,oB];cases X:aCg (sbm M at0) (sbq q at0) at0.length at0.length with
  |none=>simp only[nT (show(6:Int)≠0 by decide),bL];exact⟨trivial,fun z h=>by cases h⟩
  |some x=>
   obtain⟨x1,Y⟩:=aNY G u y X;have f:=aJ0 (e:=0) (show at0.length≤1000 by omega) k x1 K at0.length 0 K (by omega) (by omega);have z3:mp (plc at0 x 0) n=mp (fun _=>(0:Rat)) n:=rfl;rw[z3,Int.natCast_zero]at f;simp only[nF (rfl:(0:Int)=0),bG,f,oB,mZ];refine⟨trivial,fun z h j=>?_⟩;cases h;exact(aQB Y (by have:0<5^at0.length*B:=Nat.mul_pos (Nat.pow_pos (by decide)) (by omega);omega) _ (by omega) j).mono J
 ·rw[if_neg hr];simp only[nT (show((aG5 (sbm M at0) at0.length at0.length:Nat):Int)≠(at0.length:Int) by omega),bL];exact⟨trivial,fun z h=>by cases h⟩
def wvl(M:Nat→Nat→Rat)(q z:Nat→Rat)(n i:Nat):Rat:=sm (fun c=>M i c*z c) n+q i
def aGd(z w:Nat→Rat):Nat→Nat→Bool
 |0,_=>true
 |t+1,i=>bif decide (0<(z i).num.sign) then(bif((w i).num.sign != 0) then false else aGd z w t (i+1)) else aGd z w t (i+1)
def ckb(M:Nat→Nat→Rat)(q z:Nat→Rat)(n:Nat):Bool:=bif ng z n 0 then false else(bif aGd z (wvl M q z n) n 0 then !(ng (wvl M q z n) n 0) else false)
theorem aLK{M:Nat→Nat→Rat}{q z:Nat→Rat}{n B B':Nat}(hM:qX n n B M)(hq:∀i,i<n→Bd B (q i))(h:∀i,i<n→Bd B' (z i))(x:n≤8)(hB:8*(B+B'+1)≤1000000000){K:Nat}(F:100≤K):∀(t i k:Nat) (f:Nat→Rat),i+t=n→t<k→(∀j,j<i→f j=wvl M q z n j)→iW K (mx M n n) (mp q n) (mp z n) k (mp f n) (i:Int)=some (mp (wvl M q z n) n)
 |0,i,k,f,G,s,u=>by
  obtain⟨y,rfl,_⟩:=aT s;simp only[iW,iE,dF (show¬(i:Int)<(n:Int) by omega),bG];rw[bW fun j I=>u j (by omega)]
 |t+1,i,k,f,G,s,u=>by
  obtain⟨y,rfl,_⟩:=aT s;have hnB:n*(B+B'+1)≤1000000000:=Nat.le_trans (Nat.mul_le_mul_right _ x) hB;have d:=aEy (f:=M i) (e:=z) (w:=n) (fun c hc=>hM i c (by omega) hc) h hnB (by omega) (show n<K by omega);have db:=aDj (f:=M i) (e:=z) (w:=n) (fun c hc=>hM i c (by omega) hc) h n (Nat.le_refl n);simp only[iW,iE,dT (show(i:Int)<(n:Int) by omega),bL,yO (g:=M) (w:=n) (show i<n by omega),oB,d,cD (f:=q) (show i<n by omega),aBL db (hq i (by omega)) (by omega) (by omega),cD (f:=f) (show i<n by omega),vA (f:=f) (show i<n by omega),qG (i:=i) (by omega)];exact aLK hM hq h x hB F t (i+1) y _ (by omega) (by omega) (fun j I=>by
   by_cases e:j=i
   ·rw[e,aN];rfl
   ·rw[aZ e];exact u j (by omega))
theorem aMt{z w:Nat→Rat}{n B B':Nat}(j:∀i,i<n→Bd B (z i))(hw:∀i,i<n→Bd B' (w i))(hB:B≤1073741824)(e:B'≤1073741824)(s:n≤1000)(K:Nat):∀(t i k:Nat),i+t=n→t<k→gO K (mp z n) (mp w n) k (i:Int)=some (bif aGd z w t i then .go () else .ret false)
 |0,i,k,u,h=>by
  obtain⟨q,rfl,_⟩:=aT h;simp only[gO,aO,dF (show¬(i:Int)<(n:Int) by omega),bG,aGd,bL]
 |t+1,i,k,u,h=>by
  obtain⟨q,rfl,_⟩:=aT h;have ih:=aMt j hw hB e s K t (i+1) q (by omega) (by omega);simp only[gO,aO,dT (show(i:Int)<(n:Int) by omega),bL,cD (f:=z) (show i<n by omega),cD (f:=w) (show i<n by omega),oB,kI (j i (by omega)) hB,kI (hw i (by omega)) e,qG (i:=i) (by omega),aGd];cases decide (0<(z i).num.sign) with
  |true=>
   simp only[bL];cases((w i).num.sign != 0) with
   |true=>simp only[bL,bG]
   |false=>simp only[bG];exact ih
  |false=>simp only[bG];exact ih
theorem aKY{M:Nat→Nat→Rat}{q z:Nat→Rat}{n B B':Nat}(hM:qX n n B M)(hq:∀i,i<n→Bd B (q i))(h:∀i,i<n→Bd B' (z i))(t:n≤8)(hB:8*(B+B'+1)≤100000000){K:Nat}(u:100≤K):oS K (mx M n n) (mp q n) (mp z n)=some (ckb M q z n):=by
 have v:=z9 hM hq (by omega) (by omega) u;have g:=aEj (yT h) (by omega) (show(mp z n).length≤1000 by rw[aO];omega) (show(mp z n).length<K by rw[aO];omega);have ngz:=(aIy h (by omega) (show n≤1000 by omega) (show n<K by omega)).1;have hw:∀i,i<n→Bd (200000000+B) (wvl M q z n i):=fun i x=>by
  have hnB:n*(B+B'+1)≤100000000:=Nat.le_trans (Nat.mul_le_mul_right _ t) hB;have db:=aDj (f:=M i) (e:=z) (w:=n) (fun c hc=>hM i c (by omega) hc) h n (Nat.le_refl n);exact(db.add (hq i x)).mono (by omega)
 have ngw:=(aIy hw (by omega) (show n≤1000 by omega) (show n<K by omega)).1;have k:=aLK hM hq h t (by omega) u n 0 K (fun _=>0) (by omega) (by omega) (fun j y=>absurd y (by omega));have s:=aMt h hw (by omega) (by omega) (show n≤1000 by omega) K n 0 K (by omega) (by omega);simp only[Int.natCast_zero]at k s;simp only[oS,v,oB,Bool.not_true,bG,aO,nF (rfl:(n:Int)=(n:Int)),g,ngz,ckb];cases ng z n 0 with
 |true=>simp only[bL]
 |false=>
  simp only[bG,tQ,aO,aC4 (n:=n) (z:=(0:Rat)) (by omega),oB,k,p7,s];cases aGd z (wvl M q z n) n 0 with
  |true=>simp only[bL,qO,ngw,oB]
  |false=>simp only[bG]
theorem aLP{x z:List Rat}{B:Nat}(h:Bds B x)(j:Bds B z)(hB:B≤1073741824)(s:x.length=z.length)(u:x.length≤1000)(K:Nat):∀(t i k:Nat),i+t=x.length→t<k→kW K x z k (i:Int)=some (if x.drop i=z.drop i then .go () else .ret false)
 |0,i,k,y,f=>by
  obtain⟨q,rfl,_⟩:=aT f;simp only[kW,dF (show¬(i:Int)<(x.length:Int) by omega),bG];rw[List.drop_eq_nil_of_le (by omega),List.drop_eq_nil_of_le (by omega),if_pos rfl]
 |t+1,i,k,y,f=>by
  obtain⟨q,rfl,_⟩:=aT f;have ih:=aLP h j hB s u K t (i+1) q (by omega) (by omega);have F:=h _ (aET (l:=x) (i:=i) (by omega));have b2:=j _ (aET (l:=z) (i:=i) (by omega));have d1:x.drop i=at' x i::x.drop (i+1):=by unfold at';rw[List.drop_eq_getElem_cons (by omega),List.getD_eq_getElem?_getD,List.getElem?_eq_getElem (by omega)];rfl
  have d2:z.drop i=at' z i::z.drop (i+1):=by unfold at';rw[List.drop_eq_getElem_cons (by omega),List.getD_eq_getElem?_getD,List.getElem?_eq_getElem (by omega)];rfl
  simp only[kW,dT (show(i:Int)<(x.length:Int) by omega),bL,aNP (l:=x) (i:=i) (by omega),aNP (l:=z) (i:=i) (by omega),oB,aCe F b2 hB hB,qG (i:=i) (by omega)];rw[d1,d2];by_cases e:at' x i=at' z i
  ·simp only[e,decide_true,Bool.not_true,bG,ih,List.cons.injEq,true_and]
  ·simp only[e,decide_false,Bool.not_false,bL,List.cons.injEq,false_and,if_false]
theorem aRV{x z:List Rat}{B:Nat}(f:Bds B x)(j:Bds B z)(hB:B≤1073741824)(k:x.length=z.length)(q:x.length≤1000){K:Nat}(s:x.length<K):sN K x z=some (decide (x=z)):=by
 have h:=aLP f j hB k q K x.length 0 K (by omega) s;simp only[Int.natCast_zero,List.drop_zero]at h;simp only[sN,h,oB];by_cases e:x=z
 ·rw[if_pos e];simp only[s9,e,decide_true,qT (rfl:(z.length:Int)=(z.length:Int))]
 ·rw[if_neg e];simp only[e,decide_false]
def aSf(B n:Nat)(out:List (List Rat)):Prop:=∀x∈out,Bds B x∧x.length=n
theorem aMi{out:List (List Rat)}{z:List Rat}{b:Bool}{n B:Nat}(s:aSf B n out)(u:Bds B z)(hzl:z.length=n)(hB:B≤1073741824)(y:n≤1000)(F:out.length≤100000){K:Nat}(G:n<K):∀(t i k:Nat),i+t=out.length→t<k→kS K out (z,b) k (i:Int)=some (if z∈out.drop i then .ret (0,out) else .go ())
 |0,i,k,I,q=>by
  obtain⟨x,rfl,_⟩:=aT q;simp only[kS,dF (show¬(i:Int)<(out.length:Int) by omega),bG];rw[List.drop_eq_nil_of_le (by omega),if_neg List.not_mem_nil]
 |t+1,i,k,I,q=>by
  obtain⟨x,rfl,_⟩:=aT q;have ih:=aMi s u hzl (b:=b) hB y F G t (i+1) x (by omega) (by omega);have f:i<out.length:=by omega
  have d1:out.drop i=out[i]::out.drop (i+1):=List.drop_eq_getElem_cons f;have J:bR out (i:Int)=some out[i]:=rdG (List.getElem?_eq_getElem f);obtain⟨L,O⟩:=s _ (List.getElem_mem f);simp only[kS,dT (show(i:Int)<(out.length:Int) by omega),bL,J,oB,aRV L u hB (by omega) (by omega) (show out[i].length<K by omega),qG (i:=i) (by omega)];rw[d1];by_cases e:out[i]=z
  ·rw[decide_eq_true e,bL,if_pos (by rw[e];exact List.mem_cons_self)]
  ·rw[decide_eq_false e,bG,ih];have:(z∈out[i]::out.drop (i+1))↔z∈out.drop (i+1):=by
    rw[List.mem_cons];exact⟨fun h=>h.resolve_left fun j=>e j.symm,Or.inr⟩
   by_cases j:z∈out.drop (i+1)
   ·rw[if_pos j,if_pos (this.2 j)]
   ·rw[if_neg j,if_neg (fun h=>j (this.1 h))]
def aEn(M:Nat→Nat→Rat)(q:Nat→Rat)(n c:Nat)(out:List (List Rat)):List (List Rat):=
 match cnd M q (zG (btc c) n) with
 |none=>out
 |some z=>if ckb M q z n=true then(if mp z n∈out then out else out++[mp z n]) else out
def xZ(M:Nat→Nat→Rat)(q:Nat→Rat)(n:Nat):Nat→List (List Rat)
 |0=>[]
 |c+1=>aEn M q n c (xZ M q n c)
theorem aM6{M:Nat→Nat→Rat}{q:Nat→Rat}{n B:Nat}(hM:qX n n B M)(hq:∀i,i<n→Bd B (q i))(f:n≤6)(k:2≤B)(hB:B≤5000):∀c,aSf (5^6*B) n (xZ M q n c)∧(xZ M q n c).length≤c
 |0=>⟨fun x e=>absurd e List.not_mem_nil,Nat.le_refl _⟩
 |c+1=>by
  obtain⟨i1,i2⟩:=aM6 hM hq f k hB c;show aSf _ _ (aEn M q n c (xZ M q n c))∧(aEn M q n c (xZ M q n c)).length≤c+1;unfold aEn;cases hc:cnd M q (zG (btc c) n) with
  |none=>exact⟨i1,by show(xZ M q n c).length≤c+1;omega⟩
  |some z=>
   have s:=(aQE (b:=btc c) hM hq f k hB (K:=100) (Nat.le_refl _)).2 z hc;show aSf _ _ (if _ then _ else _)∧(if _ then _ else _:List (List Rat)).length≤c+1;split
   ·split
    ·exact⟨i1,by omega⟩
    ·refine⟨fun x e=>?_,by rw[List.length_append];simp;exact i2⟩;rcases List.mem_append.1 e with h|h
     ·exact i1 x h
     ·rw[List.mem_singleton.1 h];exact⟨yT fun j _=>s j,aO _ _⟩
   ·exact⟨i1,by omega⟩
theorem aUa:∀n,n≤6→aRd 1 ((n:Nat):Int)=some ((2^n:Nat):Int):=by decide
theorem aUA{M:Nat→Nat→Rat}{q:Nat→Rat}{n B:Nat}(hM:qX n n B M)(hq:∀i,i<n→Bd B (q i))(f:n≤6)(h:2≤B)(hB:B≤50){K:Nat}(t:1000≤K){c:Nat}(hc:c<100):pD K (mx M n n) (mp q n) (mp (btc c) n) (xZ M q n c)=some (0,xZ M q n (c+1)):=by
 obtain⟨i1,i2⟩:=aM6 hM hq f h (show B≤5000 by omega) c;obtain⟨c1,s⟩:=aQE (b:=btc c) hM hq f h (show B≤5000 by omega) (show 100≤K by omega);show _=some (0,aEn M q n c (xZ M q n c));unfold aEn;simp only[pD,c1,oB];cases hcn:cnd M q (zG (btc c) n) with
 |none=>simp only[Bool.not_false,bL]
 |some z=>
  have k:=s z hcn;have u:5^6=15625:=rfl;have ck:=aKY (K:=K) hM hq (fun i _=>k i) (show n≤8 by omega) (by omega) (by omega);simp only[Bool.not_true,bG,ck,oB];cases ckb M q z n with
  |false=>simp only[Bool.not_false,bL,Bool.false_eq_true,if_false]
  |true=>
   have hzb:Bds (5^6*B) (mp z n):=yT fun j _=>k j
   have e:=aMi (b:=true) i1 hzb (aO z n) (by omega) (show n≤1000 by omega) (by omega) (show n<K by omega) (xZ M q n c).length 0 K (by omega) (by omega);simp only[Int.natCast_zero,List.drop_zero]at e;simp only[Bool.not_true,bG,e,oB,if_true];by_cases hm:mp z n∈xZ M q n c
   ·simp only[if_pos hm]
   ·simp only[if_neg hm,sS,apS (xs:=xZ M q n c) (x:=mp z n) (by omega),oB]
theorem aPO{M:Nat→Nat→Rat}{q:Nat→Rat}{n B:Nat}(hM:qX n n B M)(hq:∀i,i<n→Bd B (q i))(f:n≤6)(h:2≤B)(hB:B≤50){K:Nat}(j:1000≤K):tY K (mx M n n) (mp q n)=some (xZ M q n (2^n),0):=by
 have v:=z9 hM hq (by omega) (show n≤32 by omega) (show 100≤K by omega);have k:2^n≤2^6:=Nat.pow_le_pow_right (by decide) f;have e:=aOr (yF:=pD K (mx M n n) (mp q n)) (out:=xZ M q n) (show n≤8 by omega) (show 2^n≤1000 by omega) (fun c hc=>aUA hM hq f h hB j (by omega)) (show n<K by omega) (2^n) 0 K (by omega) (by omega);have z:xZ M q n 0=[]:=rfl;rw[z,Int.natCast_zero]at e;have s:Nat.beq 0 0=true:=rfl;simp only[tY,v,oB,Bool.not_true,bG,aO,dF (show¬(8:Int)<(n:Int) by omega),pQ,oG,aUa n f,e,lT,s,bL]
theorem aLm{f:Nat→Rat}{n:Nat}(h:∀i,i<n→0≤f i):ng f n 0=false:=by
 cases hc:ng f n 0 with
 |false=>rfl
 |true=>
  obtain⟨k,_,j,e⟩:=aP4 n 0 hc;exact absurd (h k (by omega)) (Rat.not_le.2 e)
theorem aGQ{z w:Nat→Rat}:∀t i,aGd z w t i=true↔∀k,i≤k→k<i+t→¬0<z k∨w k=0
 |0,i=>⟨fun _ k s u=>by omega,fun _=>rfl⟩
 |t+1,i=>by
  unfold aGd;have ih:=aGQ (z:=z) (w:=w) t (i+1);have key:∀(p:Prop),(p→(aGd z w t (i+1)=true↔∀k,i≤k→k<i+(t+1)→¬0<z k∨w k=0))→True:=fun _ _=>trivial
  by_cases f:0<z i
  ·rw[decide_eq_true (aDX.2 f),bL];by_cases hw:w i=0
   ·rw[nF (zC.2 hw),bG,ih];constructor
    ·intro h k j q;by_cases e:k=i
     ·rw[e];exact Or.inr hw
     ·exact h k (by omega) (by omega)
    ·intro h k j q;exact h k (by omega) (by omega)
   ·rw[nT (fun h=>hw (zC.1 h)),bL];constructor
    ·intro h;cases h
    ·intro h;rcases h i (Nat.le_refl _) (by omega) with h|h
     ·exact absurd f h
     ·exact absurd h hw
  ·rw[decide_eq_false (fun h=>f (aDX.1 h)),bG,ih];constructor
   ·intro h k j q;by_cases e:k=i
    ·rw[e];exact Or.inl f
    ·exact h k (by omega) (by omega)
   ·intro h k j q;exact h k (by omega) (by omega)
theorem aL8{M:Nat→Nat→Rat}{q z:Nat→Rat}{n:Nat}:ckb M q z n=true↔Sol M q n z (wvl M q z n):=by
 unfold ckb;constructor
 ·intro h;cases e:ng z n 0 with
  |true=>rw[e,bL]at h;cases h
  |false=>
   rw[e,bG]at h;cases f:aGd z (wvl M q z n) n 0 with
   |false=>rw[f,bG]at h;cases h
   |true=>
    rw[f,bL]at h;cases t:ng (wvl M q z n) n 0 with
    |true=>rw[t]at h;cases h
    |false=>
     have z1:∀j,j<n→0≤z j:=fun j s=>aH6 n 0 e j (Nat.zero_le _) (by omega)
     refine⟨z1,fun j s=>aH6 n 0 t j (Nat.zero_le _) (by omega),fun i x=>rfl,fun j s=>?_⟩;rcases(aGQ n 0).1 f j (Nat.zero_le _) (by omega) with h|h
     ·left;have:=z1 j s;have u:=Rat.not_lt.1 h;exact Rat.le_antisymm u this
     ·right;exact h
 ·intro h;rw[aLm h.z0,bG,(aGQ n 0).2 fun k _ y=>?_,bL,aLm h.w0];rfl;rcases h.zw k (by omega) with h|h
  ·left;rw[h];exact Rat.lt_irrefl
  ·right;exact h
theorem Sol.wis{M:Nat→Nat→Rat}{q z w:Nat→Rat}{n:Nat}(h:Sol M q n z w):Sol M q n z (wvl M q z n):=
 ⟨h.z0,fun j f=>by have:=h.w0 j f;rw[h.eq j f]at this;exact this,fun i k=>rfl,fun j f=>by
  rcases h.zw j f with e|e
  ·exact Or.inl e
  ·rw[h.eq j f]at e;exact Or.inr e⟩
theorem aR3{M:Nat→Nat→Rat}{q z w:Nat→Rat}{n:Nat}(h:Sol M q n z w):ckb M q z n=true:=aL8.2 h.wis
theorem aUE{M:Nat→Nat→Rat}{q z:Nat→Rat}{n B B' m:Nat}(hM:qX n n B M)(hq:∀i,i<n→Bd B (q i))(j:∀i,i<n→Bd B' (z i))(hm:1+n*(B+B'+1)+B+1≤m):∀i,i<n→Bd m (wvl M q z n i):=fun i h=>
 ((aDj (f:=M i) (e:=z) (w:=n) (fun c hc=>hM i c h hc) j n (Nat.le_refl n)).add (hq i h)).mono (by omega)
def aCX(M:Nat→Nat→Rat)(q:Nat→Rat)(n:Nat)(N:Int):bS×Int:=if N<0 then(⟨[],[],0⟩,1) else zJ M q n N.toNat
theorem aNi{M:Nat→Nat→Rat}{q:Nat→Rat}{n:Nat}(j:PB6 n M q)(k:n≤6)(N:Int):((aCX M q n N).2≠0∧(aCX M q n N).1=⟨[],[],0⟩)∨((aCX M q n N).2=0∧∃z w,(aCX M q n N).1.z=mp z n∧(aCX M q n N).1.w=mp w n∧Sol M q n z w∧(∀i,i<n→Bd 200 (z i))∧(∀i,i<n→Bd 3000 (w i))):=by
 have hM:qX n n 200 M:=fun i c e hc=>(y6 (j.1 i c e hc)).mono (by omega)
 have hq:∀i,i<n→Bd 200 (q i):=fun i e=>(y6 (j.2 i e)).mono (by omega)
 unfold aCX;by_cases s:N<0
 ·rw[if_pos s];exact Or.inl ⟨by decide,rfl⟩
 ·rw[if_neg s];by_cases f:(zJ M q n N.toNat).2=0
  ·right;refine⟨f,?_⟩;obtain⟨z,w,t,u,hs⟩:=aOI f;obtain⟨z1,z2⟩:=aTS (aL6 j k) (by omega) f;have zb:∀i,i<n→Bd 200 (z i):=fun i e=>by
    have h:=z2 (z i) (by rw[t];exact List.mem_map.2 ⟨i,List.mem_range.2 e,rfl⟩);exact h
   have x:n*(200+200+1)≤6*401:=Nat.mul_le_mul k (by omega);have wb:=aUE (m:=3000) hM hq zb (by omega);exact⟨z,w,t,u,hs,zb,fun i e=>by rw[hs.eq i e];exact wb i e⟩
  ·exact Or.inl ⟨f,(aHF f).1⟩
theorem aSc:∀i,i<6→∀c,c<64→btc c i=(((c/2^i%2:Nat):Int)==1):=by decide
theorem Sol.congr{M:Nat→Nat→Rat}{q z z' w:Nat→Rat}{n:Nat}(h:Sol M q n z w)(e:∀i,i<n→z i=z' i):Sol M q n z' w:=
 ⟨fun j f=>by rw[←e j f];exact h.z0 j f,h.w0,fun i k=>by rw[h.eq i k];congr 1;exact aK fun j f=>by rw[e j f],fun j f=>by rw[←e j f];exact h.zw j f⟩
theorem aLx{M:Nat→Nat→Rat}{q z z' w w':Nat→Rat}{n:Nat}(hs:∀i c,i<n→c<n→M i c=M c i)(hp:aFC M n)(h:Sol M q n z w)(k:Sol M q n z' w'):∀i,i<n→z i=z' i:=by
 have t:qfm M n (fun i=>z i-z' i)=sm (fun i=>(z i-z' i)*(w i-w' i)) n:=aK fun i f=>by
  have u:sm (fun j=>M i j*(z j-z' j)) n=sm (fun j=>M i j*z j) n-1*sm (fun j=>M i j*z' j) n:=by
   rw[←w7];exact aK fun j _=>by grind
  show(z i-z' i)*sm (fun j=>M i j*(z j-z' j)) n=_;rw[u,h.eq i f,k.eq i f];grind
 have y:sm (fun i=>(z i-z' i)*(w i-w' i)) n≤0:=by
  have I:0≤sm (fun i=>z i*w' i+z' i*w i) n:=pW fun i f=>by
   have a:=Rat.mul_nonneg (h.z0 i f) (k.w0 i f);have b:=Rat.mul_nonneg (k.z0 i f) (h.w0 i f);grind
  have F:sm (fun i=>(z i-z' i)*(w i-w' i)) n=-(sm (fun i=>z i*w' i+z' i*w i) n):=by
   rw[←uB];refine aK fun i f=>?_
   have a:z i*w i=0:=by rcases h.zw i f with e|e<;>rw[e]<;>grind
   have b:z' i*w' i=0:=by rcases k.zw i f with e|e<;>rw[e]<;>grind
   grind
  rw[F];grind
 have s:=aQF hs hp (fun i=>z i-z' i);have G:=aEb hs hp (x:=fun i=>z i-z' i) (by rw[t]at s ⊢;exact Rat.le_antisymm y s);intro i f;have:=G i f;grind
theorem aMw:∀(n:Nat) (b:Nat→Bool),∃c,c<2^n∧∀i,i<n→(c/2^i%2=1↔b i=true)
 |0,b=>⟨0,by decide,fun i f=>by omega⟩
 |n+1,b=>by
  obtain⟨c,c1,j⟩:=aMw n fun i=>b (i+1)
  have key:∀x,x<2→(x=1↔b 0=true)→∃c,c<2^(n+1)∧∀i,i<n+1→(c/2^i%2=1↔b i=true):=fun x q k=>by
   refine⟨2*c+x,by rw[Nat.pow_succ];omega,fun i f=>?_⟩;cases i with
   |zero=>
    have e:(2*c+x)/2^0%2=x:=by rw[Nat.pow_zero,Nat.div_one];omega
    rw[e];exact k
   |succ i=>
    have e:(2*c+x)/2^(i+1)=c/2^i:=by
     rw[show 2^(i+1)=2*2^i by rw[Nat.pow_succ,Nat.mul_comm],←Nat.div_div_eq_div_mul,show(2*c+x)/2=c by omega]
    rw[e];exact j i (by omega)
  cases hb:b 0 with
  |true=>exact key 1 (by omega) ⟨fun _=>hb,fun _=>rfl⟩
  |false=>exact key 0 (by omega) ⟨fun h=>by omega,fun h=>by rw[hb]at h;cases h⟩
theorem aD1{l:List Nat}{x i:Nat}:qZ (l++[x]) i=if i<l.length then qZ l i else if i=l.length then x else 0:=by
 unfold qZ;rw[List.getD_eq_getElem?_getD,List.getD_eq_getElem?_getD];by_cases h:i<l.length
 ·rw[if_pos h,List.getElem?_append_left h]
 ·rw[if_neg h,List.getElem?_append_right (by omega)];by_cases e:i=l.length
  ·rw[if_pos e,e,Nat.sub_self];rfl
  ·rw[if_neg e,List.getElem?_eq_none (by simp;omega)];rfl
theorem aPF{b:Nat→Bool}:∀n,(∀i,i<(zG b n).length→b (qZ (zG b n) i)=true)∧(∀j,j<n→b j=true→∃i,i<(zG b n).length∧qZ (zG b n) i=j)∧∀i j,i<(zG b n).length→j<(zG b n).length→qZ (zG b n) i=qZ (zG b n) j→i=j
 |0=>⟨fun i k=>absurd k (by show¬i<0;omega),fun j q=>by omega,fun i j k=>absurd k (by show¬i<0;omega)⟩
 |n+1=>by
  obtain⟨s,t,u⟩:=aPF (b:=b) n;have hlt:∀i,i<(zG b n).length→qZ (zG b n) i<n:=fun i k=>aLi k
  cases hb:b n with
  |false=>
   have e:zG b (n+1)=zG b n:=by show(bif b n then _ else _)=_;rw[hb,bG]
   rw[e];refine⟨s,fun j q hbj=>?_,u⟩;by_cases ej:j=n
   ·rw[ej,hb]at hbj;cases hbj
   ·exact t j (by omega) hbj
  |true=>
   have e:zG b (n+1)=zG b n++[n]:=by show(bif b n then _ else _)=_;rw[hb,bL]
   rw[e];have x:(zG b n++[n]).length=(zG b n).length+1:=by simp
   rw[x];refine⟨fun i k=>?_,fun j q hbj=>?_,fun i j k q hij=>?_⟩
   ·rw[aD1];by_cases f:i<(zG b n).length
    ·rw[if_pos f];exact s i f
    ·rw[if_neg f,if_pos (by omega)];exact hb
   ·by_cases ej:j=n
    ·exact⟨(zG b n).length,by omega,by rw[aD1,if_neg (by omega),if_pos rfl,ej]⟩
    ·obtain⟨i,i1,i2⟩:=t j (by omega) hbj;exact⟨i,by omega,by rw[aD1,if_pos i1];exact i2⟩
   ·rw[aD1,aD1]at hij;by_cases f:i<(zG b n).length<;>by_cases h:j<(zG b n).length
    ·rw[if_pos f,if_pos h]at hij;exact u i j f h hij
    ·rw[if_pos f,if_neg h,if_pos (by omega)]at hij;have:=hlt i f;omega
    ·rw[if_neg f,if_pos (by omega),if_pos h]at hij;have:=hlt j h;omega
    ·omega
def exq(at0:List Nat)(y:Nat→Rat)(j:Nat):Rat:=sm (fun i=>if qZ at0 i=j then y i else 0) at0.length
theorem aIP{at0:List Nat}{y f:Nat→Rat}{n:Nat}(h:∀i,i<at0.length→qZ at0 i<n):sm (fun j=>f j*exq at0 y j) n=sm (fun i=>f (qZ at0 i)*y i) at0.length:=by
 have e:sm (fun j=>f j*exq at0 y j) n=sm (fun j=>sm (fun i=>if qZ at0 i=j then f j*y i else 0) at0.length) n:=aK fun j _=>by
  unfold exq;rw[←mY];refine aK fun i _=>?_
  by_cases e:qZ at0 i=j
  ·rw[if_pos e,if_pos e]
  ·rw[if_neg e,if_neg e,Rat.mul_zero]
 rw[e,wE];refine aK fun i k=>?_
 rw[kP (h i k) fun j _ hne=>if_neg fun e=>hne e.symm,if_pos rfl]
theorem aPM{at0:List Nat}{y:Nat→Rat}(f:∀i j,i<at0.length→j<at0.length→qZ at0 i=qZ at0 j→i=j){i:Nat}(h:i<at0.length):exq at0 y (qZ at0 i)=y i:=by
 unfold exq;rw[kP h fun j k hne=>if_neg fun e=>hne (f j i k h e),if_pos rfl]
theorem aTP{at0:List Nat}{y:Nat→Rat}{j:Nat}(h:∀i,i<at0.length→qZ at0 i≠j):exq at0 y j=0:=by
 unfold exq;exact dM fun i e=>if_neg (h i e)
theorem aLW{at0:List Nat}{x:List Rat}(f:∀i j,i<at0.length→j<at0.length→qZ at0 i=qZ at0 j→i=j):∀m,m≤at0.length→(∀i,i<m→plc at0 x m (qZ at0 i)=at' x i)∧∀j,(∀i,i<m→qZ at0 i≠j)→plc at0 x m j=0
 |0,_=>⟨fun i h=>by omega,fun j _=>rfl⟩
 |m+1,hm=>by
  obtain⟨q,s⟩:=aLW (x:=x) f m (by omega);refine⟨fun i h=>?_,fun j k=>?_⟩
  ·show gN (plc at0 x m) (qZ at0 m) (at' x m) (qZ at0 i)=_;by_cases e:i=m
   ·rw[e,aN]
   ·rw[aZ (fun t=>e (f i m (by omega) (by omega) t))];exact q i (by omega)
  ·show gN (plc at0 x m) (qZ at0 m) (at' x m) j=_;rw[aZ (fun e=>k m (by omega) e.symm)];exact s j fun i h=>k i (by omega)
theorem aR9{M:Nat→Nat→Rat}{q z w:Nat→Rat}{n:Nat}{b:Nat→Bool}(hs:∀i c,i<n→c<n→M i c=M c i)(hp:aFC M n)(h:Sol M q n z w)(hb:∀i,i<n→(b i=true↔0<z i)):∃z',cnd M q (zG b n)=some z'∧∀i,i<n→z' i=z i:=by
 obtain⟨a1,a2,a3⟩:=aPF (b:=b) n;have F:∀i,i<(zG b n).length→qZ (zG b n) i<n:=fun i s=>aLi s
 have zno:∀j,j<n→(∀i,i<(zG b n).length→qZ (zG b n) i≠j)→z j=0:=fun j t hno=>by
  have O:¬0<z j:=fun I=>by
   obtain⟨i,i1,i2⟩:=a2 j t ((hb j t).2 I);exact hno i i1 i2
  exact Rat.le_antisymm (Rat.not_lt.1 O) (h.z0 j t)
 generalize zG b n=at0 at *;have zext:∀j,j<n→z j=exq at0 (fun i=>z (qZ at0 i)) j:=fun j t=>by
  by_cases e:∃i,i<at0.length∧qZ at0 i=j
  ·obtain⟨i,i1,i2⟩:=e;rw[←i2,aPM a3 i1]
  ·have hno:∀i,i<at0.length→qZ at0 i≠j:=fun i s u=>e ⟨i,s,u⟩
   rw[aTP hno,zno j t hno]
 unfold cnd;by_cases K:at0.length=0
 ·rw[if_pos K];exact⟨_,rfl,fun i s=>(zno i s fun j t=>by omega).symm⟩
 rw[if_neg K];have hr:aG5 (sbm M at0) at0.length at0.length=at0.length:=Classical.byContradiction fun hne=>by
  obtain⟨y,U,c,c1,V⟩:=aOa hne;have G:qfm M n (exq at0 y)=0:=by
   have u:qfm M n (exq at0 y)=sm (fun j=>sm (fun l=>M j l*exq at0 y l) n*exq at0 y j) n:=aK fun j _=>Rat.mul_comm _ _
   rw[u,aIP (f:=fun j=>sm (fun l=>M j l*exq at0 y l) n) F];refine dM fun i s=>?_
   rw[aIP (f:=M (qZ at0 i)) F];have J:sm (fun k=>M (qZ at0 i) (qZ at0 k)*y k) at0.length=0:=U i s;rw[J,Rat.zero_mul]
  have L:=aEb hs hp G _ (F c c1);rw[aPM a3 c1]at L;exact V L
 rw[if_pos hr];have hv:∀i,i<at0.length→yP (sbm M at0) (fun i=>z (qZ at0 i)) at0.length i=sbq q at0 i:=fun i s=>by
  have G:sm (fun j=>M (qZ at0 i) j*z j) n=yP (sbm M at0) (fun i=>z (qZ at0 i)) at0.length i:=by
   have u:sm (fun j=>M (qZ at0 i) j*z j) n=sm (fun j=>M (qZ at0 i) j*exq at0 (fun i=>z (qZ at0 i)) j) n:=aK fun j t=>by rw[←zext j t]
   rw[u,aIP (f:=M (qZ at0 i)) F];rfl
  have I:0<z (qZ at0 i):=(hb _ (F i s)).1 (a1 i s);have hw:w (qZ at0 i)=0:=by
   rcases h.zw _ (F i s) with e|e
   ·rw[e]at I;exact absurd I Rat.lt_irrefl
   ·exact e
  have J:=h.eq _ (F i s);rw[hw,G]at J;unfold sbq;grind
 obtain⟨s1,s2⟩:=aNJ hv;generalize aCw (vO (wid (sbm M at0) (sbq q at0) at0.length) at0.length at0.length) at0.length (vO (wid (sbm M at0) (sbq q at0) at0.length) at0.length at0.length).ps.length=sv at *;rw[s1];have G:∀c,c<at0.length→sv c=z (qZ at0 c):=fun c hc=>by
  have:=aP0 hr (y:=fun c=>sv c-z (qZ at0 c)) (fun i s=>by
   have u:yP (sbm M at0) (fun c=>sv c-z (qZ at0 c)) at0.length i=yP (sbm M at0) sv at0.length i-1*yP (sbm M at0) (fun c=>z (qZ at0 c)) at0.length i:=by
    unfold yP;rw[←w7];exact aK fun j _=>by grind
   rw[u,s2 i s,hv i s];grind) hc
  grind
 refine⟨_,rfl,fun j t=>?_⟩;obtain⟨X,Y⟩:=aLW (x:=mp sv at0.length) a3 at0.length (Nat.le_refl _);by_cases e:∃i,i<at0.length∧qZ at0 i=j
 ·obtain⟨i,i1,i2⟩:=e;rw[←i2,X i i1,aWw i1,G i i1]
 ·have hno:∀i,i<at0.length→qZ at0 i≠j:=fun i s u=>e ⟨i,s,u⟩
  rw[Y j hno,zno j t hno]
theorem aQp{M:Nat→Nat→Rat}{q z w:Nat→Rat}{n:Nat}(u:n≤5)(hs:∀i c,i<n→c<n→M i c=M c i)(hp:aFC M n)(h:Sol M q n z w):xZ M q n (2^n)=[mp z n]:=by
 have step:∀c out,(out=[]∨out=[mp z n])→(aEn M q n c out=out∨aEn M q n c out=[mp z n]):=fun c out x=>by
  unfold aEn;cases hc:cnd M q (zG (btc c) n) with
  |none=>exact Or.inl rfl
  |some z'=>
   show(if ckb M q z' n=true then(if mp z' n∈out then out else out++[mp z' n]) else out)=out∨(if ckb M q z' n=true then(if mp z' n∈out then out else out++[mp z' n]) else out)=[mp z n];by_cases j:ckb M q z' n=true
   ·have e:mp z' n=mp z n:=bW fun i k=>(aLx hs hp (aL8.1 j) h i k)
    rw[if_pos j,e];rcases x with rfl|rfl
    ·right;rw[if_neg List.not_mem_nil];rfl
    ·right;rw[if_pos (List.mem_singleton.2 rfl)]
   ·rw[if_neg j];exact Or.inl rfl
 have all:∀c,xZ M q n c=[]∨xZ M q n c=[mp z n]:=fun c=>by
  induction c with
  |zero=>exact Or.inl rfl
  |succ c ih=>
   rcases step c _ ih with e|e
   ·show aEn M q n c (xZ M q n c)=[]∨aEn M q n c (xZ M q n c)=[mp z n];rw[e];exact ih
   ·exact Or.inr e
 obtain⟨c,c1,y⟩:=aMw n fun i=>decide (0<z i)
 have hlt:2^n≤2^5:=Nat.pow_le_pow_right (by decide) u;have hb:∀i,i<n→(btc c i=true↔0<z i):=fun i k=>by
  rw[aSc i (by omega) c (by omega)];have f:=y i k;rw[decide_eq_true_iff]at f;rw[←f];constructor
  ·intro s;have F:=beq_iff_eq.1 s;omega
  ·intro s;exact beq_iff_eq.2 (by omega)
 obtain⟨z',z1,z2⟩:=aR9 (b:=btc c) hs hp h hb;have here:xZ M q n (c+1)=[mp z n]:=by
  have j:ckb M q z' n=true:=aR3 (h.congr fun i k=>(z2 i k).symm);have e:mp z' n=mp z n:=bW z2;show aEn M q n c (xZ M q n c)=_;unfold aEn;rw[z1];show(if ckb M q z' n=true then(if mp z' n∈xZ M q n c then xZ M q n c else xZ M q n c++[mp z' n]) else xZ M q n c)=_;rw[if_pos j,e];rcases all c with f|f
  ·rw[f,if_neg List.not_mem_nil];rfl
  ·rw[f,if_pos (List.mem_singleton.2 rfl)]
 have stay:∀t,xZ M q n (c+1+t)=[mp z n]:=fun t=>by
  induction t with
  |zero=>exact here
  |succ t ih=>
   show aEn M q n (c+1+t) (xZ M q n (c+1+t))=_;rcases step (c+1+t) _ (Or.inr ih) with e|e
   ·rw[e];exact ih
   ·exact e
 have:=stay (2^n-(c+1));rw[show c+1+(2^n-(c+1))=2^n by omega]at this;exact this
def ngx(β:Nat→Rat)(i:Nat)(x:Rat):Rat:=if β i<0 then -x else x
def sgB(β:Nat→Rat)(i:Nat):Rat:=if β i<0 then -1 else 1
theorem aCM{β:Nat→Rat}{i:Nat}{x:Rat}:ngx β i x=sgB β i*x:=by unfold ngx sgB;split<;>grind
theorem aPJ{β:Nat→Rat}{i:Nat}:sgB β i≠0:=by unfold sgB;split<;>decide
def mV(v m:Nat)(A:Nat→Nat→Rat)(β:Nat→Rat)(i k:Nat):Rat:=
 if k<v then ngx β i (A i k) else if k<2*v then ngx β i (-(A i (k-v))) else if k<2*v+m then(if k=2*v+i then ngx β i 1 else 0) else if k<2*v+2*m then(if k=2*v+m+i∧β i<0 then 1 else 0) else ngx β i (β i)
def aA0(v m:Nat)(β:Nat→Rat)(i:Nat):Nat:=if β i<0 then 2*v+m+i else 2*v+i
section
variable {v m:Nat} {A:Nat→Nat→Rat} {β γ:Nat→Rat}
theorem aLr{i k:Nat}(h:k<v):mV v m A β i k=sgB β i*A i k:=by unfold mV;rw[if_pos h,aCM]
theorem aP6{i k:Nat}(h:k<v):mV v m A β i (v+k)=-(sgB β i*A i k):=by
 unfold mV;rw[if_neg (by omega),if_pos (by omega),aCM,show v+k-v=k by omega];grind
theorem aGG{i k:Nat}(h:k<m):mV v m A β i (v+v+k)=if k=i then sgB β i else 0:=by
 unfold mV;rw[if_neg (by omega),if_neg (by omega),if_pos (by omega)];by_cases e:k=i
 ·rw[if_pos (by omega),if_pos e,aCM,Rat.mul_one]
 ·rw[if_neg (by omega),if_neg e]
theorem aJb{i k:Nat}(h:k<m):mV v m A β i (v+v+m+k)=if k=i∧β i<0 then 1 else 0:=by
 unfold mV;rw[if_neg (by omega),if_neg (by omega),if_neg (by omega),if_pos (by omega)];by_cases e:k=i
 ·by_cases f:β i<0
  ·rw[if_pos ⟨by omega,f⟩,if_pos ⟨e,f⟩]
  ·rw[if_neg (fun h=>f h.2),if_neg (fun h=>f h.2)]
 ·rw[if_neg (fun h=>e (by omega)),if_neg (fun h=>e h.1)]
theorem aIT{i:Nat}:mV v m A β i (2*v+2*m)=sgB β i*β i:=by
 unfold mV;rw[if_neg (by omega),if_neg (by omega),if_neg (by omega),if_neg (by omega),aCM]
theorem aFR{i:Nat}(h:i<m):aA0 v m β i<2*v+2*m:=by unfold aA0;split<;>omega
theorem TI.self{n w:Nat}{Z:Nat→Nat→Rat}{b:Nat→Nat}(hb:∀j,j<n→b j<w)(hu:∀i j,i<n→j<n→Z i (b j)=if i=j then 1 else 0):TI n w Z Z b:=
 ⟨⟨fun i j=>if i=j then 1 else 0,fun i k f h=>by
  rw[vX,kP f fun j q hne=>by rw[if_neg fun e=>hne e.symm,Rat.mul_zero],if_pos rfl,Rat.mul_one]⟩,hb,hu⟩
theorem aNe:TI m (2*v+2*m+1) (mV v m A β) (mV v m A β) (aA0 v m β):=by
 refine TI.self (fun j k=>by have:=aFR (v:=v) (β:=β) k;omega) fun i j q k=>?_
 unfold aA0;by_cases e:β j<0
 ·rw[if_pos e,show 2*v+m+j=v+v+m+j by omega,aJb k];by_cases f:i=j
  ·rw[if_pos ⟨f.symm,by rw[f];exact e⟩,if_pos f]
  ·rw[if_neg (fun h=>f h.1.symm),if_neg f]
 ·rw[if_neg e,show 2*v+j=v+v+j by omega,aGG k];by_cases f:i=j
  ·rw[if_pos f.symm,if_pos f,f];unfold sgB;rw[if_neg e]
  ·rw[if_neg (fun h=>f h.symm),if_neg f]
theorem aQ4{i:Nat}:0≤mV v m A β i (2*v+2*m):=by
 rw[aIT];unfold sgB;split<;>grind
theorem aJP{x:Nat→Rat}{i:Nat}(j:i<m):sm (fun k=>mV v m A β i k*x k) (2*v+2*m+1)=sgB β i*(sm (fun k=>A i k*(x k-x (v+k))) v+x (2*v+i)+β i*x (2*v+2*m))+if β i<0 then x (2*v+m+i) else 0:=by
 have q:2*v+2*m+1=v+v+m+m+1:=by omega
 have s:sm (fun k=>mV v m A β i k*x k) v=sgB β i*sm (fun k=>A i k*x k) v:=by
  rw[←mY];exact aK fun k f=>by rw[aLr f];grind
 have t:sm (fun k=>mV v m A β i (v+k)*x (v+k)) v=sgB β i*sm (fun k=>-(A i k*x (v+k))) v:=by
  rw[←mY];exact aK fun k f=>by rw[aP6 f];grind
 have u:sm (fun k=>mV v m A β i (v+v+k)*x (v+v+k)) m=sgB β i*x (2*v+i):=by
  rw[kP j fun k f hne=>by rw[aGG f,if_neg hne,Rat.zero_mul],aGG j,if_pos rfl,show v+v+i=2*v+i by omega]
 have y:sm (fun k=>mV v m A β i (v+v+m+k)*x (v+v+m+k)) m=if β i<0 then x (2*v+m+i) else 0:=by
  rw[kP j fun k f hne=>by rw[aJb f,if_neg (fun h=>hne h.1),Rat.zero_mul],aJb j,show v+v+m+i=2*v+m+i by omega];by_cases e:β i<0
  ·rw[if_pos ⟨rfl,e⟩,if_pos e,Rat.one_mul]
  ·rw[if_neg (fun h=>e h.2),if_neg e,Rat.zero_mul]
 have z:sm (fun k=>A i k*(x k-x (v+k))) v=sm (fun k=>A i k*x k) v+sm (fun k=>-(A i k*x (v+k))) v:=by
  rw[←aA1];exact aK fun k _=>by grind
 rw[q,uP,uP,uP,uP,s,t,u,y,z];show _+(0+mV v m A β i (v+v+m+m+0)*x (v+v+m+m+0))=_;rw[show v+v+m+m+0=2*v+2*m by omega,aIT];grind
def aAW(v:Nat)(g:Nat→Rat)(i:Nat):Rat:=g (2*v+i)
theorem aMp{c T' g:Nat→Rat}{T:Nat→Nat→Rat}{b:Nat→Nat}(h:SX m (2*v+2*m) (mV v m A β) c T g b)(hc:∀i,i<m→c (2*v+i)=0)(u:c (2*v+2*m)=0):
  (∀k,k<v→sm (fun i=>aAW v g i*A i k) m=g k-c k∧-(sm (fun i=>aAW v g i*A i k) m)=g (v+k)-c (v+k))∧sm (fun i=>aAW v g i*β i) m=g (2*v+2*m):=by
 obtain⟨l,q⟩:=h.gc;have t:∀i,i<m→aAW v g i=-(l i*sgB β i):=fun i f=>by
  unfold aAW;rw[q _ (by omega),hc i f,kP f fun j F hne=>by rw[show 2*v+i=v+v+i by omega,aGG f,if_neg (fun e=>hne e.symm),Rat.mul_zero],show 2*v+i=v+v+i by omega,aGG f,if_pos rfl];grind
 have x:∀k,k<v→sm (fun i=>aAW v g i*A i k) m=-(sm (fun j=>l j*mV v m A β j k) m):=fun k s=>by
  rw[←uB];exact aK fun i f=>by rw[t i f,aLr s];grind
 refine⟨fun k s=>⟨?_,?_⟩,?_⟩
 ·rw[x k s,q k (by omega)];grind
 ·have y:-(sm (fun i=>aAW v g i*A i k) m)=-(sm (fun j=>l j*mV v m A β j (v+k)) m):=by
   rw[←uB,←uB];exact aK fun i f=>by rw[t i f,aP6 s];grind
  rw[y,q (v+k) (by omega)];grind
 ·have z:sm (fun i=>aAW v g i*β i) m=-(sm (fun j=>l j*mV v m A β j (2*v+2*m)) m):=by
   rw[←uB];exact aK fun i f=>by rw[t i f,aIT];grind
  rw[z,q _ (by omega),u];grind
def aDq(T:Nat→Nat→Rat)(b:Nat→Nat)(n e j:Nat):Rat:=sm (fun i=>if b i=j then T i e else 0) n
theorem aQY{T:Nat→Nat→Rat}{b:Nat→Nat}{n e j:Nat}(h:∀i,i<n→0≤T i e):0≤aDq T b n e j:=
 pW fun i f=>by split;exact h i f;exact Rat.le_refl
theorem aAN{T:Nat→Nat→Rat}{b:Nat→Nat}{n e j:Nat}(h:j≠e):tT T b n e j=-(aDq T b n e j):=by
 unfold tT aDq;rw[if_neg h];grind
theorem aE7{T:Nat→Nat→Rat}{b:Nat→Nat}{n e:Nat}(h:∀i,i<n→b i≠e):tT T b n e e=1:=by
 unfold tT;rw[if_pos rfl,dM fun i f=>if_neg (h i f)];grind
def spt(T:Nat→Nat→Rat)(b:Nat→Nat)(n v e k:Nat):Rat:=aDq T b n e k-aDq T b n e (v+k)
def Art(v m:Nat)(s:STb):Prop:=∀i,i<m→2*v+m≤s.b i→s.t i (2*v+2*m)=0∧∀k,k<2*v+m→s.t i k=0
theorem aRX{s:STb}(f:Art v m s){i:Nat}:aDq s.t s.b m (2*v+2*m) (2*v+m+i)=0:=
 dM fun j h=>by
  split
  ·rename_i e;exact(f j h (by omega)).1
  ·rfl
theorem aL1{c:Nat→Rat}{s:STb}(h:SXs m (2*v+2*m) (mV v m A β) c s)(u:Art v m s){i:Nat}(f:i<m):sm (fun k=>A i k*spt s.t s.b m v (2*v+2*m) k) v≤β i:=by
 have e:=h.1.dZ (k:=2*v+2*m) (by omega) f;have hb:∀i,i<m→s.b i≠2*v+2*m:=fun i f=>by have:=h.1.lt i f;omega
 rw[aJP f,aE7 hb,aAN (by omega),aAN (by omega),aRX u]at e;have x:sm (fun k=>A i k*(tT s.t s.b m (2*v+2*m) k-tT s.t s.b m (2*v+2*m) (v+k))) v=-(sm (fun k=>A i k*spt s.t s.b m v (2*v+2*m) k) v):=by
  rw[←uB];refine aK fun k z=>?_
  rw[aAN (by omega),aAN (by omega)];unfold spt;grind
 have F:=aQY (b:=s.b) (j:=2*v+i) h.2;rw[x]at e;have y:sgB β i*(-(sm (fun k=>A i k*spt s.t s.b m v (2*v+2*m) k) v)+ -(aDq s.t s.b m (2*v+2*m) (2*v+i))+β i*1)=0:=by
  split at e<;>grind
 rcases Rat.mul_eq_zero.1 y with q|q
 ·exact absurd q aPJ
 ·grind
def cs1(v m:Nat)(k:Nat):Rat:=if 2*v+m≤k∧k<2*v+2*m then 1 else 0
def cs2(v:Nat)(γ:Nat→Rat)(k:Nat):Rat:=if k<v then -(γ k) else if k<2*v then γ (k-v) else 0
def st0(v m:Nat)(A:Nat→Nat→Rat)(β:Nat→Rat):STb:=⟨mV v m A β,prc (cs1 v m) (mV v m A β) (aA0 v m β) m,aA0 v m β⟩
theorem aQA{k:Nat}:0≤cs1 v m k:=by unfold cs1;split<;>decide
theorem aOx:cs1 v m (2*v+2*m)=0:=by unfold cs1;rw[if_neg (by omega)]
theorem aQN:SXs m (2*v+2*m) (mV v m A β) (cs1 v m) (st0 v m A β):=
 ⟨aO4 aNe (fun i e=>aFR e) (fun x f=>f),fun i _=>aQ4⟩
theorem aOB{s:STb}(h:SXs m (2*v+2*m) (mV v m A β) (cs1 v m) s){col:Nat}(hc:col<2*v+2*m)(u:s.g col<0)(k:∀i,i<m→s.t i col≤0):False:=by
 have e:=h.1.gdot (x:=tT s.t s.b m col) fun i f=>h.1.dZ (by omega) f
 rw[zE (by omega) h.1.ti.lt,dM fun i f=>by rw[h.1.gb i f,Rat.zero_mul]]at e;have:0≤sm (fun j=>cs1 v m j*tT s.t s.b m col j) (2*v+2*m+1):=pW fun j y=>by
  refine Rat.mul_nonneg aQA ?_;unfold tT;have q:sm (fun i=>if s.b i=j then s.t i col else 0) m=-(sm (fun i=>if s.b i=j then -(s.t i col) else 0) m):=by
   rw[←uB];exact aK fun i _=>by split<;>grind
  have z:0≤sm (fun i=>if s.b i=j then -(s.t i col) else 0) m:=pW fun i f=>by
   split
   ·have:=k i f;grind
   ·exact Rat.le_refl
  rw[q];split<;>grind
 grind
structure aWl (v m:Nat) (A:Nat→Nat→Rat) (β Y:Nat→Rat):Prop where
 y0:∀i,i<m→0≤Y i
 eq:∀k,k<v→sm (fun i=>Y i*A i k) m=0
 lt:sm (fun i=>Y i*β i) m<0
structure aRA (v m:Nat) (A:Nat→Nat→Rat) (β γ X Y:Nat→Rat):Prop where
 fe:∀i,i<m→sm (fun k=>A i k*X k) v≤β i
 y0:∀i,i<m→0≤Y i
 eq:∀k,k<v→sm (fun i=>Y i*A i k) m=γ k
 va:sm (fun i=>Y i*β i) m=sm (fun k=>γ k*X k) v
structure aWC (v m:Nat) (A:Nat→Nat→Rat) (β γ X Y:Nat→Rat):Prop where
 fe:∀i,i<m→sm (fun k=>A i k*X k) v≤β i
 ra:∀i,i<m→sm (fun k=>A i k*Y k) v≤0
 up:0<sm (fun k=>γ k*Y k) v
theorem aRh{s:STb}(h:SXs m (2*v+2*m) (mV v m A β) (cs1 v m) s)(e:∀k,k<2*v+2*m→0≤s.g k)(j:s.g (2*v+2*m)<0):aWl v m A β (aAW v s.g):=by
 have c0:∀k,k<2*v+m→cs1 v m k=0:=fun k f=>by unfold cs1;rw[if_neg (by omega)]
 obtain⟨d1,d2⟩:=aMp (T':=s.g) h.1 (fun i q=>c0 _ (by omega)) aOx;refine⟨fun i q=>e _ (by omega),fun k f=>?_,by rw[d2];exact j⟩;obtain⟨t,u⟩:=d1 k f;have x:=e k (by omega);have y:=e (v+k) (by omega);rw[c0 k (by omega)]at t;rw[c0 (v+k) (by omega)]at u;grind
theorem aQ9{s:STb}(h:SXs m (2*v+2*m) (mV v m A β) (cs1 v m) s)(q:¬s.g (2*v+2*m)<0):∀i,i<m→2*v+m≤s.b i→s.t i (2*v+2*m)=0:=by
 have e:=h.1.gdot (x:=tT s.t s.b m (2*v+2*m)) fun i j=>h.1.dZ (by omega) j
 rw[zE (by omega) h.1.ti.lt,zE (by omega) h.1.ti.lt,aOx,dM (f:=fun i=>s.g (s.b i)*s.t i (2*v+2*m)) fun i j=>by rw[h.1.gb i j,Rat.zero_mul]]at e;have nn:∀i,i<m→0≤cs1 v m (s.b i)*s.t i (2*v+2*m):=fun i j=>Rat.mul_nonneg aQA (h.2 i j)
 have G:=pW nn;have u:sm (fun i=>cs1 v m (s.b i)*s.t i (2*v+2*m)) m=0:=by
  have:=Rat.not_lt.1 q;grind
 intro i j hb;have y:=aFX nn u i j;have z:=h.1.lt i j;have F:cs1 v m (s.b i)=1:=by unfold cs1;rw[if_pos ⟨hb,z⟩]
 have k:cs1 v m (s.b i)*s.t i (2*v+2*m)=0:=y;rw[F,Rat.one_mul]at k;exact k
def fnz(f:Nat→Rat):Nat→Nat→Option Nat
 |0,_=>none
 |t+1,k=>bif((f k).num.sign != 0) then some k else fnz f t (k+1)
theorem aGX{f:Nat→Rat}:∀t k r,fnz f t k=some r→k≤r∧r<k+t∧f r≠0
 |0,k,r,h=>by cases h
 |t+1,k,r,h=>by
  unfold fnz at h;by_cases e:f k=0
  ·rw[nF (zC.2 e),bG]at h;obtain⟨q,s,j⟩:=aGX t (k+1) r h;exact⟨by omega,by omega,j⟩
  ·rw[nT (fun h=>e (zC.1 h)),bL]at h;cases h;exact⟨Nat.le_refl _,by omega,e⟩
theorem aKB{f:Nat→Rat}:∀t k,fnz f t k=none→∀j,k≤j→j<k+t→f j=0
 |0,k,_,j,q,s=>by omega
 |t+1,k,h,j,q,s=>by
  unfold fnz at h;by_cases e:f k=0
  ·rw[nF (zC.2 e),bG]at h;by_cases ej:j=k
   ·rw[ej];exact e
   ·exact aKB t (k+1) h j (by omega) (by omega)
  ·rw[nT (fun h=>e (zC.1 h)),bL]at h;cases h
def sdr(last:Nat):Nat→Nat→STb→STb
 |0,_,s=>s
 |t+1,i,s=>bif decide (s.b i<last) then sdr last t (i+1) s else match fnz (s.t i) last 0 with
  |none=>sdr last t (i+1) s
  |some k=>sdr last t (i+1) (snx s i k)
theorem aI2{c:Nat→Rat}:∀t i s,i+t=m→SXs m (2*v+2*m) (mV v m A β) c s→(∀j,j<m→2*v+m≤s.b j→s.t j (2*v+2*m)=0)→(∀j,j<i→2*v+m≤s.b j→∀k,k<2*v+m→s.t j k=0)→SXs m (2*v+2*m) (mV v m A β) c (sdr (2*v+m) t i s)∧Art v m (sdr (2*v+m) t i s)
 |0,i,s,G,h,u,x=>⟨h,fun j q hb=>⟨u j q hb,x j (by omega) hb⟩⟩
 |t+1,i,s,G,h,u,x=>by
  unfold sdr;by_cases e:s.b i<2*v+m
  ·rw[decide_eq_true e,bL];exact aI2 t (i+1) s (by omega) h u fun j q hb k y=>by
    by_cases ej:j=i
    ·rw[ej]at hb;omega
    ·exact x j (by omega) hb k y
  ·rw[decide_eq_false e,bG];cases F:fnz (s.t i) (2*v+m) 0 with
   |none=>
    exact aI2 t (i+1) s (by omega) h u fun j q hb k y=>by
     by_cases ej:j=i
     ·rw[ej];exact aKB _ 0 F k (Nat.zero_le _) (by omega)
     ·exact x j (by omega) hb k y
   |some col=>
    obtain⟨_,f2,f3⟩:=aGX _ 0 _ F;have him:i<m:=by omega
    have z:=u i him (by omega);have same:∀j,qC s.t i col j (2*v+2*m)=s.t j (2*v+2*m):=fun j=>by
     unfold qC;rw[z];by_cases ej:j=i
     ·rw[if_pos ej,ej,z];grind
     ·rw[if_neg ej];grind
    refine aI2 t (i+1) (snx s i col) (by omega) ⟨h.1.pivot him (by omega) f3,fun j q=>?_⟩ (fun j q hb=>?_) fun j q hb k y=>?_
    ·show 0≤qC s.t i col j _;rw[same];exact h.2 j q
    ·show qC s.t i col j _=0;rw[same];have f:2*v+m≤gN s.b i col j:=hb;by_cases ej:j=i
     ·rw[ej];exact z
     ·rw[aZ ej]at f;exact u j q f
    ·have f:2*v+m≤gN s.b i col j:=hb;by_cases ej:j=i
     ·rw[ej,aN]at f;omega
     ·rw[aZ ej]at f;have z2:=x j (by omega) f;show qC s.t i col j k=0;unfold qC;rw[if_neg ej,z2 k y,z2 col (by omega)];grind
def st2(v m:Nat)(γ:Nat→Rat)(s:STb):STb:=⟨s.t,prc (cs2 v γ) s.t s.b m,s.b⟩
theorem aUz{c:Nat→Rat}{s:STb}(h:SXs m (2*v+2*m) (mV v m A β) c s):SXs m (2*v+2*m) (mV v m A β) (cs2 v γ) (st2 v m γ s):=
 ⟨aO4 h.1.ti h.1.lt h.1.ke,h.2⟩
theorem aPD{c:Nat→Rat}{s:STb}{r col:Nat}(h:SXs m (2*v+2*m) (mV v m A β) c s)(j:Art v m s)(hr:r<m)(hc:col<2*v+m)(hp:0<s.t r col):Art v m (snx s r col):=fun i q hb=>by
 have f:2*v+m≤gN s.b r col i:=hb;by_cases e:i=r
 ·rw[e,aN]at f;omega
 ·rw[aZ e]at f;obtain⟨a1,a2⟩:=j i q f;refine⟨?_,fun k u=>?_⟩
  ·show qC s.t r col i _=0;unfold qC;rw[if_neg e,a1,a2 col hc];grind
  ·show qC s.t r col i k=0;unfold qC;rw[if_neg e,a2 k u,a2 col hc];grind
theorem aMR{x:Nat→Rat}:sm (fun j=>cs2 v γ j*x j) (2*v+2*m+1)=-(sm (fun k=>γ k*(x k-x (v+k))) v):=by
 rw[show 2*v+2*m+1=v+v+(2*m+1) by omega,uP,uP];have f:sm (fun j=>cs2 v γ j*x j) v=-(sm (fun k=>γ k*x k) v):=by
  rw[←uB];exact aK fun k e=>by unfold cs2;rw[if_pos e];grind
 have h:sm (fun j=>cs2 v γ (v+j)*x (v+j)) v=sm (fun k=>γ k*x (v+k)) v:=
  aK fun k e=>by unfold cs2;rw[if_neg (by omega),if_pos (by omega),show v+k-v=k by omega]
 have q:sm (fun j=>cs2 v γ (v+v+j)*x (v+v+j)) (2*m+1)=0:=dM fun k e=>by
  unfold cs2;rw[if_neg (by omega),if_neg (by omega),Rat.zero_mul]
 have s:sm (fun k=>γ k*(x k-x (v+k))) v=sm (fun k=>γ k*x k) v-1*sm (fun k=>γ k*x (v+k)) v:=by
  rw[←w7];exact aK fun k _=>by grind
 rw[f,h,q,s];grind
theorem aSe{s:STb}(h:SXs m (2*v+2*m) (mV v m A β) (cs2 v γ) s)(z:Art v m s)(u:∀k,k<2*v+m→0≤s.g k):aRA v m A β γ (spt s.t s.b m v (2*v+2*m)) (aAW v s.g):=by
 have c0:∀k,2*v≤k→cs2 v γ k=0:=fun k q=>by unfold cs2;rw[if_neg (by omega),if_neg (by omega)]
 obtain⟨d1,d2⟩:=aMp (T':=s.g) h.1 (fun i j=>c0 _ (by omega)) (c0 _ (by omega));refine⟨fun i j=>aL1 h z j,fun i j=>u _ (by omega),fun k q=>?_,?_⟩
 ·obtain⟨F,y⟩:=d1 k q;have I:=u k (by omega);have J:=u (v+k) (by omega);have c1:cs2 v γ k=-(γ k):=by unfold cs2;rw[if_pos q]
  have G:cs2 v γ (v+k)=γ k:=by unfold cs2;rw[if_neg (by omega),if_pos (by omega),show v+k-v=k by omega]
  rw[c1]at F;rw[G]at y;grind
 ·have e:=h.1.gdot (x:=tT s.t s.b m (2*v+2*m)) fun i j=>h.1.dZ (by omega) j
  rw[zE (by omega) h.1.ti.lt,dM (f:=fun i=>s.g (s.b i)*s.t i (2*v+2*m)) fun i j=>by rw[h.1.gb i j,Rat.zero_mul],aMR]at e;have y:sm (fun k=>γ k*(tT s.t s.b m (2*v+2*m) k-tT s.t s.b m (2*v+2*m) (v+k))) v=-(sm (fun k=>γ k*spt s.t s.b m v (2*v+2*m) k) v):=by
   rw[←uB];refine aK fun k q=>?_
   rw[aAN (by omega),aAN (by omega)];unfold spt;grind
  rw[d2];rw[y]at e;grind
def sry(T:Nat→Nat→Rat)(b:Nat→Nat)(n v col k:Nat):Rat:=tT T b n col k-tT T b n col (v+k)
theorem aRg{s:STb}(h:SXs m (2*v+2*m) (mV v m A β) (cs2 v γ) s)(z:Art v m s){col:Nat}(hc:col<2*v+m)(O:s.g col<0)(F:∀i,i<m→s.t i col≤0):aWC v m A β γ (spt s.t s.b m v (2*v+2*m)) (sry s.t s.b m v col):=by
 refine⟨fun i q=>aL1 h z q,fun i q=>?_,?_⟩
 ·have e:=h.1.dZ (k:=col) (by omega) q;have G:tT s.t s.b m col (2*v+2*m)=0:=by
   unfold tT;rw[if_neg (by omega),dM fun i q=>if_neg (by have:=h.1.lt i q;omega)];grind
  have I:tT s.t s.b m col (2*v+m+i)=0:=by
   unfold tT;rw[if_neg (by omega),dM fun j y=>by
    split
    ·rename_i e;exact(z j y (by omega)).2 col hc
    ·rfl]
   grind
  have U:0≤tT s.t s.b m col (2*v+i):=by
   unfold tT;have J:sm (fun j=>if s.b j=2*v+i then s.t j col else 0) m=-(sm (fun j=>if s.b j=2*v+i then -(s.t j col) else 0) m):=by
    rw[←uB];exact aK fun j _=>by split<;>grind
   have V:0≤sm (fun j=>if s.b j=2*v+i then -(s.t j col) else 0) m:=pW fun j y=>by
    split
    ·have:=F j y;grind
    ·exact Rat.le_refl
   rw[J];split<;>grind
  rw[aJP q,G,I]at e;have K:sgB β i*(sm (fun k=>A i k*sry s.t s.b m v col k) v+tT s.t s.b m col (2*v+i))=0:=by
   have u:sm (fun k=>A i k*(tT s.t s.b m col k-tT s.t s.b m col (v+k))) v=sm (fun k=>A i k*sry s.t s.b m v col k) v:=rfl;rw[u]at e;split at e<;>grind
  rcases Rat.mul_eq_zero.1 K with u|u
  ·exact absurd u aPJ
  ·grind
 ·have e:=h.1.gdot (x:=tT s.t s.b m col) fun i q=>h.1.dZ (by omega) q
  rw[zE (by omega) h.1.ti.lt,dM (f:=fun i=>s.g (s.b i)*s.t i col) fun i q=>by rw[h.1.gb i q,Rat.zero_mul],aMR]at e;have L:sm (fun k=>γ k*(tT s.t s.b m col k-tT s.t s.b m col (v+k))) v=sm (fun k=>γ k*sry s.t s.b m v col k) v:=rfl;rw[L]at e;grind
end
end Go.Proofs.YtolfcbpgmfbgmaaGreat
