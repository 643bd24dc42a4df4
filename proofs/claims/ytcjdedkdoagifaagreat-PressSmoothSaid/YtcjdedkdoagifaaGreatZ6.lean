/- Texts of the proof, part 6: XX XY YE YF YG YH YI YJ YK YL YV WA WB WC WD YM XZ YN YO YP YQ YS YT YW WE YX YU WF. -/
import Derived.Test.YtcjdedkdoagifaaGreatZ5
set_option linter.unusedSimpArgs false
set_option linter.unusedVariables false
namespace Go.Proofs.YtcjdedkdoagifaaGreat
/-- The rows as they lie, and where. -/
def zS (G:Nat→Nat→Rat) (N:Nat):List (List Rat):=[]::mx G N N
def ord (N:Nat):List Nat:=mp (fun i=>i+1) N
theorem aBU {G:Nat→Nat→Rat} {N i:Nat} (h:i<N):(zS G N).getD (i+1) []=mp (G i) N:=by
 unfold zS mx
 rw [List.getD_eq_getElem?_getD,List.getElem?_cons_succ,yR h];rfl
theorem aD4 {G:Nat→Nat→Rat} {N i:Nat} {f:Nat→Rat}:(zS G N).set (i+1) (mp f N)=zS (gI G i f) N:=by
 unfold zS
 rw [List.set_cons_succ]
 unfold mx
 rw [aNj,aQX];rfl
theorem uO {G H:Nat→Nat→Rat} {N:Nat} (h:∀i c,i<N→c<N→G i c=H i c):zS G N=zS H N:=by
 unfold zS;rw [aM2 h]
theorem aQK {G:Nat→Nat→Rat} {N:Nat}:aEK (zS G N) (ord N)=mx G N N:=by
 unfold aEK ord mp mx
 rw [List.map_map]
 unfold mp
 refine List.map_congr_left fun i hi=>?_
 exact aBU (List.mem_range.1 hi)
theorem rdO {N i:Nat} (h:i<N):bM (ord N) (i:Int)=some (i+1):=dV h
theorem aMW {v:List Rat} {l:List aA} {m:Nat} (hm:m≤100) (K:Nat):∀(t i k:Nat),i+t=off v l m→t<k→fE K ((yB v l m).map pu) (mp (fun _=>(0:Nat)) (off v l m)) k (mp (fun j=>if j<i then j+1 else 0) (off v l m)) ([]::mx (fun _=>z0) i (off v l m)) (i:Int)=some (ord (off v l m),zS (fun _=>z0) (off v l m))
 |0,i,k,hi,hk=>by
  obtain⟨k',rfl,_⟩:=a8 hk
  have e:i=off v l m:=by omega
  subst e
  simp only [fE,bF,dF (show¬(off v l m:Int)<(off v l m:Int) by omega),bO]
  have:mp (fun j=>if j<off v l m then j+1 else 0) (off v l m)=ord (off v l m):=bZ fun j hj=>if_pos hj
  rw [this];rfl
 |t+1,i,k,hi,hk=>by
  obtain⟨k',rfl,_⟩:=a8 hk
  have hil:i<off v l m:=by omega
  have h4:=rI (v:=v) (l:=l) m
  have e0:([]::mx (fun _=>z0) i (off v l m)).length=i+1:=by rw [List.length_cons,uJ]
  have e1:nU (mp (fun j=>if j<i then j+1 else 0) (off v l m)) (i:Int) (i+1)=some (mp (fun j=>if j<i+1 then j+1 else 0) (off v l m)):=by
   rw [rX hil]
   congr 1
   refine bZ fun j _=>?_
   by_cases e:j=i
   ·subst e;rw [aW,if_pos (by omega)]
   ·rw [bY e]
    by_cases hlt:j<i
    ·rw [if_pos hlt,if_pos (by omega)]
    ·rw [if_neg hlt,if_neg (by omega)]
  have e2:([]::mx (fun _=>z0) i (off v l m))++[mp (fun _=>(0:Rat)) (off v l m)]=[]::mx (fun _=>z0) (i+1) (off v l m):=by
   show []::(mx (fun _=>z0) i (off v l m)++_)=_
   unfold mx
   rw [aDx];rfl
  simp only [fE,bF,dT (show(i:Int)<(off v l m:Int) by omega),bT,tG,aBx (z:=(0:Rat)) (n:=off v l m) (by omega),oB,dV (f:=fun j=>if j<i then j+1 else 0) hil,e0,e1,e2,mS (i:=i) (by omega)]
  exact aMW hm K t (i+1) k' (by omega) (by omega)
theorem aL7 {g:Nat→Rat} {N i:Nat} {w:Rat} (h:i<N):gA (mp g N) (i:Int) w=some (mp (gI g i w) N):=by
 simp only [gA,dV (f:=g) h,rX (f:=g) h,oB]
theorem aQu {w:Nat→Rat} {N i:Nat}:mp (gI (fun j=>if j<i then w j else 0) i (w i)) N=mp (fun j=>if j<i+1 then w j else 0) N:=bZ fun j _=>by
 by_cases e:j=i
 ·subst e;rw [aW,if_pos (by omega)]
 ·rw [bY e]
  by_cases hlt:j<i
  ·rw [if_pos hlt,if_pos (by omega)]
  ·rw [if_neg hlt,if_neg (by omega)]
theorem aRH {w:Nat→Rat} {N i:Nat} (h:w i=0):mp (fun j=>if j<i then w j else 0) N=mp (fun j=>if j<i+1 then w j else 0) N:=bZ fun j _=>by
 by_cases e:j=i
 ·subst e;rw [if_neg (by omega),if_pos (by omega),h]
 ·by_cases hlt:j<i
  ·rw [if_pos hlt,if_pos (by omega)]
  ·rw [if_neg hlt,if_neg (by omega)]
theorem rv0 {v:List Rat} {l:List aA} {a:List Rat} {r q k:Nat} (hq:vq v l r q) (hr:r<l.length) (hk:k=off v l r+q):rv v l a k=if q=0 then rt (gH l r).j a else if q=1 then rt (gH l r).t a else if q=2 then -(rt (gH l r).t a) else 0:=by
 unfold rv;rw [hk,aCi hq hr]
theorem aMv {d:List aG} {f v a:List Rat} {l:List aA} {B:Nat} (hl:RsC l) (ha:vQ B a) (hB:B≤10000000) (hn:l.length≤100) {K:Nat} (hK:13≤K):∀(t k fu:Nat),k+t=off v l l.length→t<fu→bU K a ((yB v l l.length).map pu) ⟨d,f,v,l⟩ fu (mp (fun j=>if j<k then rv v l a j else 0) (off v l l.length)) (k:Int)=some (mp (rv v l a) (off v l l.length))
 |0,k,fu,hi,hk=>by
  obtain⟨k',rfl,_⟩:=a8 hk
  have e:k=off v l l.length:=by omega
  subst e
  simp only [bU,tG,dF (show¬(off v l l.length:Int)<(off v l l.length:Int) by omega),bO]
  exact congrArg some (bZ fun j hj=>if_pos hj)
 |t+1,k,fu,hi,hk=>by
  obtain⟨k',rfl,_⟩:=a8 hk
  have hkl:k<off v l l.length:=by omega
  have h4:=rI (v:=v) (l:=l) l.length
  obtain⟨r,q,h1,h2,h3⟩:=tI l.length k hkl
  have hq3:=vq3 h2
  have hu:=rdU (m:=l.length) h2 h1
  rw [←h3] at hu
  have hr:=hl _ (k8 h1)
  have hrv:=rv0 (a:=a) h2 h1 h3
  have ih:=aMv (d:=d) (f:=f) (v:=v) hl ha hB hn hK t (k+1) k' (by omega) (by omega)
  have bt:=aAX ha hr.1.2
  simp only [bU,tG,dT (show(k:Int)<(off v l l.length:Int) by omega),bT,hu,oB,aBX h1]
  have hcase:q=0∨q=1∨q=2∨q=3:=by omega
  rcases hcase with rfl|rfl|rfl|rfl
  ·have e:rv v l a k=rt (gH l r).j a:=hrv
   simp only [qT (show((0:Nat):Int)=0 from rfl),bT,xI ha (by omega) hr.1.1 hK,oB,aL7 (g:=fun j=>if j<k then rv v l a j else 0) hkl,mS (i:=k) (by omega)]
   rw [←e,aQu];exact ih
  ·have e:rv v l a k=rt (gH l r).t a:=hrv
   simp only [qF (show((1:Nat):Int)≠0 by omega),qT (show((1:Nat):Int)=1 from rfl),bO,bT,xI ha (by omega) hr.1.2 hK,oB,aL7 (g:=fun j=>if j<k then rv v l a j else 0) hkl,mS (i:=k) (by omega)]
   rw [←e,aQu];exact ih
  ·have e:rv v l a k=-(rt (gH l r).t a):=hrv
   simp only [qF (show((2:Nat):Int)≠0 by omega),qF (show((2:Nat):Int)≠1 by omega),qT (show((2:Nat):Int)=2 from rfl),bO,bT,xI ha (by omega) hr.1.2 hK,oB,aCr bt (by omega),aL7 (g:=fun j=>if j<k then rv v l a j else 0) hkl,mS (i:=k) (by omega)]
   rw [←e,aQu];exact ih
  ·have e:rv v l a k=0:=hrv
   simp only [qF (show((3:Nat):Int)≠0 by omega),qF (show((3:Nat):Int)≠1 by omega),qF (show((3:Nat):Int)≠2 by omega),bO,oB,mS (i:=k) (by omega)]
   rw [aRH e];exact ih
def adc (G:Nat→Nat→Rat) (k:Nat) (w:Nat→Rat) (t i c:Nat):Rat:=if c=k∧i<t then G i c+w i else G i c
theorem aLv {G:Nat→Nat→Rat} {N i k BG BW:Nat} {w:Rat} (hi:i<N) (hk:k<N) (hG:Bd BG (G i k)) (hw:Bd BW w) (h1:BG≤1073741824) (h2:BW≤1073741824):gB (ord N,zS G N) (k:Int) (i:Int) w=some (ord N,zS (gI G i (gI (G i) k (G i k+w))) N):=by
 simp only [gB,rdO hi,oB,aBU hi,dV (f:=G i) hk,wK hG hw h1 h2,rX (f:=G i) hk,aD4]
theorem aD3 {G:Nat→Nat→Rat} {k t N:Nat} {w:Nat→Rat}:zS (gI (adc G k w t) t (gI (adc G k w t t) k (adc G k w t t k+w t))) N=zS (adc G k w (t+1)) N:=uO fun i c _ _=>by
 by_cases e:i=t
 ·subst e
  rw [aW]
  by_cases h:c=k
  ·subst h
   rw [aW]
   unfold adc
   rw [if_neg (by omega),if_pos ⟨rfl,by omega⟩]
  ·rw [bY h]
   unfold adc
   rw [if_neg (fun h2=>h h2.1),if_neg (fun h2=>h h2.1)]
 ·rw [bY e]
  unfold adc
  by_cases h:c=k∧i<t
  ·rw [if_pos h,if_pos ⟨h.1,by omega⟩]
  ·rw [if_neg h,if_neg fun h2=>h ⟨h2.1,by omega⟩]
theorem aMw {G:Nat→Nat→Rat} {k t N:Nat} {w:Nat→Rat} (h0:w t=0):zS (adc G k w t) N=zS (adc G k w (t+1)) N:=uO fun i c _ _=>by
 unfold adc
 by_cases h:c=k∧i<t
 ·rw [if_pos h,if_pos ⟨h.1,by omega⟩]
 ·rw [if_neg h]
  by_cases h2:c=k∧i<t+1
  ·have:i=t:=by
    by_cases e:i=t
    ·exact e
    ·exact absurd ⟨h2.1,by omega⟩ h
   rw [if_pos h2,this,h0,Rat.add_zero]
  ·rw [if_neg h2]
theorem aLh {d:List aG} {f v a:List Rat} {l:List aA} {G:Nat→Nat→Rat} {c B BG:Nat} (hl:RsC l) (ha:vQ B a) (hB:B≤10000000) (hn:l.length≤100) (hc:c<off v l l.length) (hG:∀i,i<off v l l.length→Bd BG (G i c)) (hBG:BG≤1073741824) {K:Nat} (hK:13≤K):∀(t k fu:Nat),k+t=off v l l.length→t<fu→bV K a (c:Int) ((yB v l l.length).map pu) ⟨d,f,v,l⟩ fu (ord (off v l l.length)) (zS (adc G c (rv v l a) k) (off v l l.length)) (k:Int)=some (ord (off v l l.length),zS (adc G c (rv v l a) (off v l l.length)) (off v l l.length))
 |0,k,fu,hi,hk=>by
  obtain⟨k',rfl,_⟩:=a8 hk
  have e:k=off v l l.length:=by omega
  subst e
  simp only [bV,tG,dF (show¬(off v l l.length:Int)<(off v l l.length:Int) by omega),bO]
 |t+1,k,fu,hi,hk=>by
  obtain⟨k',rfl,_⟩:=a8 hk
  have hkl:k<off v l l.length:=by omega
  have h4:=rI (v:=v) (l:=l) l.length
  obtain⟨r,q,h1,h2,h3⟩:=tI l.length k hkl
  have hq3:=vq3 h2
  have hu:=rdU (m:=l.length) h2 h1
  rw [←h3] at hu
  have hr:=hl _ (k8 h1)
  have hrv:=rv0 (a:=a) h2 h1 h3
  have ih:=aLh (d:=d) (f:=f) hl ha hB hn hc hG hBG hK t (k+1) k' (by omega) (by omega)
  have bj:=aAX ha hr.1.1
  have bt:=aAX ha hr.1.2
  have hGk:Bd BG (adc G c (rv v l a) k k c):=by unfold adc;rw [if_neg (by omega)];exact hG k hkl
  simp only [bV,tG,dT (show(k:Int)<(off v l l.length:Int) by omega),bT,hu,oB,aBX h1]
  have hcase:q=0∨q=1∨q=2∨q=3:=by omega
  rcases hcase with rfl|rfl|rfl|rfl
  ·have e:rv v l a k=rt (gH l r).j a:=hrv
   simp only [qT (show((0:Nat):Int)=0 from rfl),bT,xI ha (by omega) hr.1.1 hK,oB,aLv hkl hc hGk bj hBG (by omega),mS (i:=k) (by omega)]
   rw [←e,aD3];exact ih
  ·have e:rv v l a k=rt (gH l r).t a:=hrv
   simp only [qF (show((1:Nat):Int)≠0 by omega),qT (show((1:Nat):Int)=1 from rfl),bO,bT,xI ha (by omega) hr.1.2 hK,oB,aLv hkl hc hGk bt hBG (by omega),mS (i:=k) (by omega)]
   rw [←e,aD3];exact ih
  ·have e:rv v l a k=-(rt (gH l r).t a):=hrv
   simp only [qF (show((2:Nat):Int)≠0 by omega),qF (show((2:Nat):Int)≠1 by omega),qT (show((2:Nat):Int)=2 from rfl),bO,bT,xI ha (by omega) hr.1.2 hK,oB,aCr bt (by omega),aLv hkl hc hGk bt.neg hBG (by omega),mS (i:=k) (by omega)]
   rw [←e,aD3];exact ih
  ·have e:rv v l a k=0:=hrv
   simp only [qF (show((3:Nat):Int)≠0 by omega),qF (show((3:Nat):Int)≠1 by omega),qF (show((3:Nat):Int)≠2 by omega),bO,oB,mS (i:=k) (by omega)]
   rw [aMw e];exact ih
theorem aRW {d:List aG} {f v a:List Rat} {l:List aA} {G:Nat→Nat→Rat} {c B BG:Nat} (hl:RsC l) (ha:vQ B a) (hB:B≤10000000) (hn:l.length≤100) (hc:c<off v l l.length) (hG:∀i,i<off v l l.length→Bd BG (G i c)) (hBG:BG≤1073741824) {K:Nat} (hK:5000≤K):cE K a (c:Int) ((yB v l l.length).map pu) ⟨d,f,v,l⟩ (ord (off v l l.length)) (zS G (off v l l.length))=some (ord (off v l l.length),zS (adc G c (rv v l a) (off v l l.length)) (off v l l.length)):=by
 have h4:=rI (v:=v) (l:=l) l.length
 have e:zS (adc G c (rv v l a) 0) (off v l l.length)=zS G (off v l l.length):=uO fun i c' _ _=>if_neg (by omega)
 have:=aLh (d:=d) (f:=f) hl ha hB hn hc hG hBG (K:=K) (by omega) (off v l l.length) 0 K (by omega) (by omega)
 rw [e] at this
 simp only [Int.natCast_zero] at this
 simp only [cE,this,oB,iZ]
theorem vB {v:List Rat} {l:List aA} {r q r' q':Nat} (h:vq v l r q) (h':vq v l r' q'):ek (off v l r+q) (off v l r'+q')=if r'=r∧q'=q then 1 else 0:=by
 unfold ek
 by_cases e:r'=r∧q'=q
 ·rw [if_pos e,e.1,e.2,aW]
 ·rw [if_neg e,bY fun h3=>e (aDs h' h h3)];rfl
theorem aJy {v:List Rat} {l:List aA} {z:Nat→Rat} {i:Nat} (h0:z (off v l i)=0) (h1:yX v (gH l i)=true→z (off v l i+1)=0∧z (off v l i+2)=0):pz v l z i=⟨0,0⟩:=by
 unfold pz
 rw [h0]
 split
 ·rfl
 ·rename_i ht
  split
  ·rw [Rat.mul_zero,Rat.mul_zero]
  ·rename_i hs
   have hst:yX v (gH l i)=true:=by
    unfold yX
    rw [decide_eq_true (show 0<(gH l i).t.length by omega),decide_eq_true (show(rt (gH l i).t v).num.sign=0 from Decidable.of_not_not hs)];rfl
   rw [(h1 hst).1,(h1 hst).2,Rat.sub_self]
theorem aHM {v:List Rat} {l:List aA} {r q i:Nat} (h:vq v l r q) (hi:i≠r):pz v l (ek (off v l r+q)) i=⟨0,0⟩:=
 aJy (by have:=vB h (r':=i) (q':=0) (.inl rfl);rw [Nat.add_zero] at this;rw [this,if_neg fun h=>hi h.1]) fun hs=>
  ⟨by rw [vB h (.inr ⟨hs,by omega⟩),if_neg fun h=>hi h.1],by rw [vB h (.inr ⟨hs,by omega⟩),if_neg fun h=>hi h.1]⟩
theorem aMC {v:List Rat} {l:List aA} {r q:Nat} {x:aF} (h:vq v l r q) (hx:pz v l (ek (off v l r+q)) r=x):mp (gI p0 r x) l.length=mp (pz v l (ek (off v l r+q))) l.length:=bZ fun i _=>by
 by_cases e:i=r
 ·rw [e,aW,hx]
 ·rw [bY e,aHM h e];rfl
theorem aIF {v:List Rat} {r:aA} (h:yX v r=true):r.t.length≠0∧(rt r.t v).num.sign=0:=by
 unfold yX at h
 rw [Bool.and_eq_true] at h
 have h1:=of_decide_eq_true h.1
 exact⟨by omega,of_decide_eq_true h.2⟩
def bc (v:List Rat) (l:List aA) (k:Nat) (i:Nat):Rat:=zv v l (ek k) i
theorem zv0 {v:List Rat} {l:List aA} {z:Nat→Rat} {r q k:Nat} (hq:vq v l r q) (hr:r<l.length) (hk:k=off v l r+q):zv v l z k=if q=0 then 0 else if q=1 then z (k+2) else if q=2 then z (k+1) else(gH l r).mu*z (k-3)-(z (k-2)+z (k-1)):=by
 unfold zv;rw [hk,aCi hq hr]
theorem vqs {v:List Rat} {l:List aA} {r q p:Nat} (h:vq v l r q) (hq:q≠0) (hp:p≤3):vq v l r p:=by
 rcases h with h|h
 ·exact absurd h hq
 ·exact .inr ⟨h.1,hp⟩
theorem aGO {v:List Rat} {l:List aA} {r q r' q':Nat} (h:vq v l r q) (h':vq v l r' q') (hr':r'<l.length):zv v l (ek (off v l r+q)) (off v l r'+q')=if q'=0 then 0 else if q'=1 then(if r'=r∧3=q then 1 else 0) else if q'=2 then(if r'=r∧3=q then 1 else 0) else(gH l r').mu*(if r'=r∧0=q then 1 else 0)-((if r'=r∧1=q then 1 else 0)+(if r'=r∧2=q then 1 else 0)):=by
 rw [zv0 h' hr' rfl]
 have hq3:=vq3 h'
 have hcase:q'=0∨q'=1∨q'=2∨q'=3:=by omega
 rcases hcase with rfl|rfl|rfl|rfl
 ·rfl
 ·show ek _ (off v l r'+3)=_
  rw [vB h (vqs h' (by omega) (by omega))];rfl
 ·show ek _ (off v l r'+3)=_
  rw [vB h (vqs h' (by omega) (by omega))];rfl
 ·show(gH l r').mu*ek _ (off v l r'+0)-(ek _ (off v l r'+1)+ek _ (off v l r'+2))=_
  rw [vB h (vqs h' (by omega) (by omega)),vB h (vqs h' (by omega) (by omega)),vB h (vqs h' (by omega) (by omega))];rfl
theorem aDH {v:List Rat} {l:List aA} {g:Nat→Rat} {x:Rat} {r q r' q':Nat} (h:vq v l r q) (h':vq v l r' q'):gI g (off v l r+q) x (off v l r'+q')=if r'=r∧q'=q then x else g (off v l r'+q'):=by
 by_cases e:r'=r∧q'=q
 ·rw [if_pos e,e.1,e.2,aW]
 ·rw [if_neg e,bY fun h3=>e (aDs h' h h3)]
theorem aSv {v:List Rat} {l:List aA} {r i:Nat} (hs:yX v (gH l r)=true) (hi:i<off v l l.length):bc v l (off v l r) i=gI z0 (off v l r+3) (gH l r).mu i:=by
 obtain⟨r',q',h1,h2,rfl⟩:=tI l.length i hi
 have hq3:=vq3 h2
 have:=aGO (v:=v) (l:=l) (r:=r) (q:=0) (.inl rfl) h2 h1
 rw [Nat.add_zero] at this
 unfold bc
 rw [this,aDH (.inr ⟨hs,by omega⟩) h2]
 have hcase:q'=0∨q'=1∨q'=2∨q'=3:=by omega
 rcases hcase with rfl|rfl|rfl|rfl
 ·simp [z0]
 ·simp [z0]
 ·simp [z0]
 ·by_cases e:r'=r
  ·subst e;simp [Rat.sub_eq_add_neg,Rat.add_zero,Rat.zero_add,Rat.neg_zero,Rat.mul_zero,Rat.mul_one]
  ·simp [e,z0,Rat.sub_eq_add_neg,Rat.add_zero,Rat.zero_add,Rat.neg_zero,Rat.mul_zero,Rat.mul_one]
theorem aQC {v:List Rat} {l:List aA} {r i:Nat} (hs:yX v (gH l r)=false) (hi:i<off v l l.length):bc v l (off v l r) i=0:=by
 obtain⟨r',q',h1,h2,rfl⟩:=tI l.length i hi
 have hq3:=vq3 h2
 have:=aGO (v:=v) (l:=l) (r:=r) (q:=0) (.inl rfl) h2 h1
 rw [Nat.add_zero] at this
 unfold bc
 rw [this]
 have hcase:q'=0∨q'=1∨q'=2∨q'=3:=by omega
 rcases hcase with rfl|rfl|rfl|rfl
 ·simp
 ·simp
 ·simp
 ·have e:r'≠r:=fun e=>by
   rcases h2 with h|h
   ·omega
   ·rw [e,hs] at h;exact absurd h.1 (by decide)
  simp [e,Rat.sub_eq_add_neg,Rat.add_zero,Rat.zero_add,Rat.neg_zero,Rat.mul_zero,Rat.mul_one]
theorem aRx {v:List Rat} {l:List aA} {r i:Nat} (h:vq v l r 1) (hi:i<off v l l.length):bc v l (off v l r+1) i=gI z0 (off v l r+3) (-1) i:=by
 obtain⟨r',q',h1,h2,rfl⟩:=tI l.length i hi
 have hq3:=vq3 h2
 unfold bc
 rw [aGO h h2 h1,aDH (vqs h (by omega) (by omega)) h2]
 have hcase:q'=0∨q'=1∨q'=2∨q'=3:=by omega
 rcases hcase with rfl|rfl|rfl|rfl
 ·simp [z0]
 ·simp [z0]
 ·simp [z0]
 ·by_cases e:r'=r
  ·subst e;simp [Rat.sub_eq_add_neg,Rat.add_zero,Rat.zero_add,Rat.neg_zero,Rat.mul_zero,Rat.mul_one]
  ·simp [e,z0,Rat.sub_eq_add_neg,Rat.add_zero,Rat.zero_add,Rat.neg_zero,Rat.mul_zero,Rat.mul_one]
theorem aR9 {v:List Rat} {l:List aA} {r i:Nat} (h:vq v l r 2) (hi:i<off v l l.length):bc v l (off v l r+2) i=gI z0 (off v l r+3) (-1) i:=by
 obtain⟨r',q',h1,h2,rfl⟩:=tI l.length i hi
 have hq3:=vq3 h2
 unfold bc
 rw [aGO h h2 h1,aDH (vqs h (by omega) (by omega)) h2]
 have hcase:q'=0∨q'=1∨q'=2∨q'=3:=by omega
 rcases hcase with rfl|rfl|rfl|rfl
 ·simp [z0]
 ·simp [z0]
 ·simp [z0]
 ·by_cases e:r'=r
  ·subst e;simp [Rat.sub_eq_add_neg,Rat.add_zero,Rat.zero_add,Rat.neg_zero,Rat.mul_zero,Rat.mul_one]
  ·simp [e,z0,Rat.sub_eq_add_neg,Rat.add_zero,Rat.zero_add,Rat.neg_zero,Rat.mul_zero,Rat.mul_one]
theorem aR6 {v:List Rat} {l:List aA} {r i:Nat} (h:vq v l r 3) (hi:i<off v l l.length):bc v l (off v l r+3) i=gI (gI z0 (off v l r+1) 1) (off v l r+2) 1 i:=by
 obtain⟨r',q',h1,h2,rfl⟩:=tI l.length i hi
 have hq3:=vq3 h2
 unfold bc
 rw [aGO h h2 h1,aDH (vqs h (by omega) (by omega)) h2,aDH (vqs h (by omega) (by omega)) h2]
 have hcase:q'=0∨q'=1∨q'=2∨q'=3:=by omega
 rcases hcase with rfl|rfl|rfl|rfl
 ·simp [z0]
 ·by_cases e:r'=r<;>simp [e,z0]
 ·by_cases e:r'=r<;>simp [e,z0]
 ·simp [z0,Rat.sub_eq_add_neg,Rat.add_zero,Rat.zero_add,Rat.neg_zero,Rat.mul_zero,Rat.mul_one]
end Go.Proofs.YtcjdedkdoagifaaGreat
set_option linter.unusedVariables false
namespace Go.Proofs.YtcjdedkdoagifaaGreat
def aAu (G:Nat→Nat→Rat) (k:Nat) (b:Nat→Rat) (i c:Nat):Rat:=if c=k then b i else G i c
def gk (M:Nat→Nat→Rat) (k i c:Nat):Rat:=if c<k then M i c else 0
theorem aCv {M:Nat→Nat→Rat} {k:Nat}:aAu (gk M k) k z0=gk M k:=by
 funext i c
 unfold aAu gk z0
 by_cases h:c=k
 ·rw [if_pos h,if_neg (by omega)]
 ·rw [if_neg h]
theorem aNQ {G:Nat→Nat→Rat} {k i:Nat} {b:Nat→Rat}:aAu G k b i k=b i:=if_pos rfl
theorem aCo {G:Nat→Nat→Rat} {k j N:Nat} {b:Nat→Rat} {x:Rat}:zS (gI (aAu G k b) j (gI (aAu G k b j) k x)) N=zS (aAu G k (gI b j x)) N:=uO fun i c _ _=>by
 by_cases e:i=j
 ·subst e
  rw [aW]
  by_cases h:c=k
  ·subst h;rw [aW];unfold aAu;rw [if_pos rfl,aW]
  ·rw [bY h];unfold aAu;rw [if_neg h,if_neg h]
 ·rw [bY e]
  unfold aAu
  by_cases h:c=k
  ·rw [if_pos h,if_pos h,bY e]
  ·rw [if_neg h,if_neg h]
theorem aP9 {M:Nat→Nat→Rat} {k N:Nat} {b w:Nat→Rat} (h:∀i,i<N→M i k=b i+w i):zS (adc (aAu (gk M k) k b) k w N) N=zS (gk M (k+1)) N:=uO fun i c hi _=>by
 unfold adc aAu gk
 by_cases e:c=k
 ·subst e;rw [if_pos ⟨rfl,hi⟩,if_pos rfl,if_pos (by omega),h i hi]
 ·rw [if_neg fun h2=>e h2.1,if_neg e]
  by_cases e2:c<k
  ·rw [if_pos e2,if_pos (by omega)]
  ·rw [if_neg e2,if_neg (by omega)]
theorem aN2 {M:Nat→Nat→Rat} {k N:Nat} {b:Nat→Rat} (h:∀i,i<N→M i k=b i):zS (aAu (gk M k) k b) N=zS (gk M (k+1)) N:=uO fun i c hi _=>by
 unfold aAu gk
 by_cases e:c=k
 ·subst e;rw [if_pos rfl,if_pos (by omega),h i hi]
 ·rw [if_neg e]
  by_cases e2:c<k
  ·rw [if_pos e2,if_pos (by omega)]
  ·rw [if_neg e2,if_neg (by omega)]
theorem aDu {d:List aG} {f v:List Rat} {l:List aA} (h:ScB d f v l) {k:Nat} (hk:k<off v l l.length) {b:Nat→Rat} (hb:∀i,i<off v l l.length→bc v l k i=b i) (hbb:∀i,Bd 8 (b i)) {K:Nat} (hK:5000≤K):
  bE K ⟨d,f,v,l⟩ (mp z0 d.length) (mp (pz v l (ek k)) l.length)=some (mp (acc d z0 l (pz v l (ek k))) d.length)∧
  cE K (mp (acc d z0 l (pz v l (ek k))) d.length) (k:Int) ((yB v l l.length).map pu) ⟨d,f,v,l⟩ (ord (off v l l.length)) (zS (aAu (gk (Mf d v l) k) k b) (off v l l.length))=some (ord (off v l l.length),zS (gk (Mf d v l) (k+1)) (off v l l.length)):=by
 have h8:=h.m8
 have hn:=h.n8
 have hp:=aEW (l:=l) (v:=v) (z:=ek k) (C:=1) (fun k _=>aKq) h.sb.sl
 have hrb:RsB l:=fun r hr=>(h.sb.sl r hr).1
 have hc:(2*1+11+9)*24*l.length≤400000000:=Nat.le_trans (bd8 (C:=1) (Nat.le_refl 1) h8) (by decide)
 have hz:∀j,j<d.length→Bd 1 (z0 j):=fun j _=>Bd.zero
 have hbd:=aDL (p:=pz v l (ek k)) h.sb.sd hz hrb h.ir hp (by omega) (by omega) (by omega) hc
 refine⟨aGE (p:=pz v l (ek k)) h.sb.sd (by omega) hz hrb h.ir (by omega) hp (by omega) hc (by omega),?_⟩
 have e:=aRW (d:=d) (f:=f) (G:=aAu (gk (Mf d v l) k) k b) (c:=k) (BG:=8) h.sb.sl hbd (by unfold aIA;omega) (by omega) hk (fun i hi=>by rw [aNQ];exact hbb i) (by omega) hK
 rw [e,aP9 fun i hi=>?_]
 rw [←hb i hi]
 exact Rat.add_comm _ _
theorem aK4 {x:List aF} (hn:x.length≤60000000000):nP x=some x:=by
 unfold nP
 rw [aAa (by simp;omega)];rfl
theorem aF4 {j:Nat} {x:Rat} (h:Bd 8 x):∀i,Bd 8 (gI z0 j x i):=fun i=>by
 by_cases e:i=j
 ·rw [e,aW];exact h
 ·rw [bY e];exact Bd.zero.mono (by omega)
theorem aJA:Bd 8 (-1:Rat):=(show Bd 1 (-1:Rat) by constructor<;>decide).mono (by omega)
theorem aAA:Bd 8 (1:Rat):=(show Bd 1 (1:Rat) by constructor<;>decide).mono (by omega)
theorem aJT:aBY 1=some (-1:Rat):=aCr aAA (by omega)
theorem aRJ {v:List Rat} {l:List aA} {r:Nat}:pz v l (ek (off v l r)) r=⟨1,if(gH l r).t.length=0 then 0 else(((-(rt (gH l r).t v).num.sign:Int):Rat)/((1:Int):Rat))*((gH l r).mu*1)⟩:=by
 have h0:ek (off v l r) (off v l r)=1:=aW
 have hv0:vq v l r 0:=.inl rfl
 unfold pz
 rw [h0]
 by_cases ht:(gH l r).t.length=0
 ·rw [if_pos ht,if_pos ht]
 ·rw [if_neg ht,if_neg ht]
  by_cases hs:(rt (gH l r).t v).num.sign=0
  ·have hst:yX v (gH l r)=true:=by
    unfold yX;rw [decide_eq_true (show 0<(gH l r).t.length by omega),decide_eq_true hs];rfl
   have e1:=vB hv0 (r':=r) (q':=1) (.inr ⟨hst,by omega⟩)
   have e2:=vB hv0 (r':=r) (q':=2) (.inr ⟨hst,by omega⟩)
   rw [Nat.add_zero] at e1 e2
   rw [if_neg (fun h=>h hs),e1,e2,hs]
   have z:((-(0:Int):Int):Rat)/((1:Int):Rat)=0:=by decide+kernel
   rw [z,Rat.zero_mul]
   simp [Rat.sub_self]
  ·rw [if_pos hs]
theorem aSu {v:List Rat} {l:List aA} {r:Nat} (h:vq v l r 1):pz v l (ek (off v l r+1)) r=⟨0,1⟩:=by
 have hst:yX v (gH l r)=true:=by rcases h with h|h;omega;exact h.1
 obtain⟨s1,s2⟩:=aIF hst
 have e0:ek (off v l r+1) (off v l r)=if r=r∧0=1 then 1 else 0:=vB h (r':=r) (q':=0) (.inl rfl)
 unfold pz
 rw [if_neg s1,if_neg (fun h=>h s2),e0,vB h (r':=r) (q':=1) h,vB h (r':=r) (q':=2) (vqs h (by omega) (by omega))]
 simp [Rat.sub_eq_add_neg,Rat.add_zero,Rat.neg_zero]
theorem aRh {v:List Rat} {l:List aA} {r:Nat} (h:vq v l r 2):pz v l (ek (off v l r+2)) r=⟨0,-1⟩:=by
 have hst:yX v (gH l r)=true:=by rcases h with h|h;omega;exact h.1
 obtain⟨s1,s2⟩:=aIF hst
 have e0:ek (off v l r+2) (off v l r)=if r=r∧0=2 then 1 else 0:=vB h (r':=r) (q':=0) (.inl rfl)
 unfold pz
 rw [if_neg s1,if_neg (fun h=>h s2),e0,vB h (r':=r) (q':=1) (vqs h (by omega) (by omega)),vB h (r':=r) (q':=2) h]
 simp [Rat.sub_eq_add_neg,Rat.zero_add]
theorem aSb {d:List aG} {v:List Rat} {l:List aA} {r i:Nat} (h:vq v l r 3):Mf d v l i (off v l r+3)=bc v l (off v l r+3) i:=by
 unfold Mf bc
 have e:∀r',r'<l.length→pz v l (ek (off v l r+3)) r'=p0 r':=fun r' _=>by
  by_cases e:r'=r
  ·subst e
   have e0:ek (off v l r'+3) (off v l r')=if r'=r'∧0=3 then 1 else 0:=vB h (r':=r') (q':=0) (.inl rfl)
   refine aJy (by rw [e0,if_neg (by omega)]) fun hs=>⟨?_,?_⟩
   ·rw [vB h (r':=r') (q':=1) (vqs h (by omega) (by omega)),if_neg (by omega)]
   ·rw [vB h (r':=r') (q':=2) (vqs h (by omega) (by omega)),if_neg (by omega)]
  ·exact aHM h e
 rw [aFo e,aMz,aOg,Rat.zero_add]
theorem aD7 {d:List aG} {f v:List Rat} {l:List aA} {r:aA} {x:Rat} {C:Nat} (hv:vQ 64 v) (hr:RC r) (hx:Bd C x) (hC:C≤500000000) {K:Nat} (hK:13≤K):jW K ⟨d,f,v,l⟩ r x=some ((((-(rt r.t v).num.sign:Int):Rat)/((1:Int):Rat))*(r.mu*x)):=by
 have hb:=aJ2 (rt r.t v)
 simp only [jW,aJn hv hr.1 hK,oB,kM (show -9223372036854775808≤-(rt r.t v).num.sign∧_ by omega),(qsg _).1,sD hr.2 hx (by omega) (by omega),sD (qsg (rt r.t v)).2 (hr.2.mul hx) (by omega) (by omega)]
theorem aJS {d:List aG} {f v:List Rat} {l:List aA} (h:ScB d f v l) {K:Nat} (hK:5000≤K):∀(t k fu:Nat),k+t=off v l l.length→t<fu→aY K ⟨d,f,v,l⟩ ((yB v l l.length).map pu) (mp p0 l.length) 1 fu (ord (off v l l.length)) (zS (gk (Mf d v l) k) (off v l l.length)) (k:Int)=some (ord (off v l l.length),zS (gk (Mf d v l) (off v l l.length)) (off v l l.length))
 |0,k,fu,hi,hk=>by
  obtain⟨k',rfl,_⟩:=a8 hk
  have e:k=off v l l.length:=by omega
  rw [e]
  simp only [aY,tG,dF (show¬(off v l l.length:Int)<(off v l l.length:Int) by omega),bO]
 |t+1,k,fu,hi,hk=>by
  obtain⟨k',rfl,_⟩:=a8 hk
  have hkl:k<off v l l.length:=by omega
  have h8:=h.m8
  have hn:=h.n8
  have h4:=rI (v:=v) (l:=l) l.length
  obtain⟨r,q,h1,h2,h3⟩:=tI l.length k hkl
  have hq3:=vq3 h2
  have hu:=rdU (m:=l.length) h2 h1
  rw [←h3] at hu
  have hr:=h.sb.sl _ (k8 h1)
  have ih:=aJS h hK t (k+1) k' (by omega) (by omega)
  have hcl:=aK4 (x:=mp p0 l.length) (by rw [bF];omega)
  have hz:wG ((d.length:Nat):Int) (0:Rat)=some (mp z0 d.length):=aBx (by omega)
  have c3:aP ((k:Int)+3)=some ((k+3:Nat):Int):=by rw [kM (by omega)];rfl
  have hcase:q=0∨q=1∨q=2∨q=3:=by omega
  rcases hcase with rfl|rfl|rfl|rfl
  ·have hk0:k=off v l r:=h3
   have hpk:=aMC (x:=⟨1,if(gH l r).t.length=0 then 0 else(((-(rt (gH l r).t v).num.sign:Int):Rat)/((1:Int):Rat))*((gH l r).mu*1)⟩) (r:=r) h2 (by rw [Nat.add_zero];exact aRJ)
   rw [Nat.add_zero,←hk0] at hpk
   have key:dR K ⟨d,f,v,l⟩ ((yB v l l.length).map pu) (ord (off v l l.length)) (zS (gk (Mf d v l) k) (off v l l.length)) (k:Int) ⟨(r:Int),0⟩ (gH l r) (aY K ⟨d,f,v,l⟩ ((yB v l l.length).map pu) (mp p0 l.length) 1 k') (mp (pz v l (ek k)) l.length)=some (ord (off v l l.length),zS (gk (Mf d v l) (off v l l.length)) (off v l l.length)):=by
    cases hst:yX v (gH l r)
    ·obtain⟨a1,a2⟩:=aDu h hkl (b:=z0) (fun i hi=>by rw [hk0];exact aQC hst hi) (fun i=>Bd.zero.mono (by omega)) hK
     rw [aCv] at a2
     by_cases hk3:k+3<off v l l.length
     ·obtain⟨r',q',g1,g2,g3⟩:=tI l.length (k+3) hk3
      have hu':=rdU (m:=l.length) g2 g1
      rw [←g3] at hu'
      have hne:((r':Int)==(r:Int)&&((q':Nat):Int)==3)=false:=by
       rw [Bool.and_eq_false_iff]
       by_cases e:r'=r
       ·right
        refine qF fun e2=>?_
        rw [e] at g2
        rcases g2 with g|g
        ·omega
        ·rw [hst] at g;exact absurd g.1 (by decide)
       ·left;exact qF (by omega)
      simp only [dR,c3,oB,tG,dT (show((k+3:Nat):Int)<(off v l l.length:Int) by omega),bT,hu',hne,bO,hz,a1,a2,mS (i:=k) (by omega)]
      exact ih
     ·simp only [dR,c3,oB,tG,dF (show¬((k+3:Nat):Int)<(off v l l.length:Int) by omega),bO,hz,a1,a2,mS (i:=k) (by omega)]
      exact ih
    ·have v3:vq v l r 3:=.inr ⟨hst,by omega⟩
     have l3:=qK (v:=v) (l:=l) (m:=l.length) h1 v3
     rw [←hk0] at l3
     have hu':=rdU (m:=l.length) v3 h1
     rw [←hk0] at hu'
     obtain⟨a1,a2⟩:=aDu h hkl (b:=gI z0 (k+3) (gH l r).mu) (fun i hi=>by rw [hk0];exact aSv hst hi) (aF4 hr.2) hK
     have hy:((r:Int)==(r:Int)&&((3:Nat):Int)==3)=true:=by rw [qT rfl];rfl
     have e1:=aCo (G:=gk (Mf d v l) k) (k:=k) (j:=k+3) (N:=off v l l.length) (b:=z0) (x:=(gH l r).mu)
     rw [aCv] at e1
     simp only [dR,c3,oB,tG,dT (show((k+3:Nat):Int)<(off v l l.length:Int) by omega),bT,hu',hy,rdO l3,aBU l3,dV (f:=gk (Mf d v l) k (k+3)) hkl,rX (f:=gk (Mf d v l) k (k+3)) hkl,aD4,e1,hz,a1,a2,mS (i:=k) (by omega)]
     exact ih
   simp only [aY,tG,dT (show(k:Int)<(off v l l.length:Int) by omega),bT,hu,oB,hcl,aBX h1,qT (show((0:Nat):Int)=0 from rfl),dV (f:=p0) h1,rX (f:=p0) h1]
   by_cases ht:(gH l r).t.length=0
   ·rw [if_pos ht] at hpk
    simp only [dF (show¬(0:Int)<((gH l r).t.length:Int) by omega),bO]
    rw [show(⟨1,(p0 r).f⟩:aF)=⟨1,0⟩ from rfl,hpk]
    exact key
   ·rw [if_neg ht] at hpk
    simp only [dT (show(0:Int)<((gH l r).t.length:Int) by omega),bT,aD7 h.sb.sv hr aAA (by omega) (show 13≤K by omega),oB,dV (f:=gI p0 r ⟨1,(p0 r).f⟩) h1,rX (f:=gI p0 r ⟨1,(p0 r).f⟩) h1,aW,aOa,hpk]
    exact key
  ·have v3:vq v l r 3:=vqs h2 (by omega) (by omega)
   have l3:=qK (v:=v) (l:=l) (m:=l.length) h1 v3
   have hj:k+2<off v l l.length:=by omega
   have hpk:=aMC (x:=⟨0,1⟩) h2 (aSu h2)
   rw [←h3] at hpk
   obtain⟨a1,a2⟩:=aDu h hkl (b:=gI z0 (k+2) (-1)) (fun i hi=>by rw [h3];exact aRx h2 hi) (aF4 aJA) hK
   have e1:=aCo (G:=gk (Mf d v l) k) (k:=k) (j:=k+2) (N:=off v l l.length) (b:=z0) (x:=-1)
   rw [aCv] at e1
   have c4:aP (((k+3:Nat):Int)-1)=some ((k+2:Nat):Int):=by rw [show((k+3:Nat):Int)-1=((k+2:Nat):Int) by omega,kM (by omega)]
   have ep:(⟨(p0 r).n,1⟩:aF)=⟨0,1⟩:=rfl
   simp only [aY,tG,dT (show(k:Int)<(off v l l.length:Int) by omega),bT,hu,oB,hcl,aBX h1,qF (show((1:Nat):Int)≠0 by omega),qT (show((1:Nat):Int)=1 from rfl),bO,dV (f:=p0) h1,rX (f:=p0) h1,ep,hpk,c3,c4,rdO hj,aJT,aBU hj,dV (f:=gk (Mf d v l) k (k+2)) hkl,rX (f:=gk (Mf d v l) k (k+2)) hkl,aD4,e1,hz,a1,a2,mS (i:=k) (by omega)]
   exact ih
  ·have v3:vq v l r 3:=vqs h2 (by omega) (by omega)
   have l3:=qK (v:=v) (l:=l) (m:=l.length) h1 v3
   have hj:k+1<off v l l.length:=by omega
   have hpk:=aMC (x:=⟨0,-1⟩) h2 (aRh h2)
   rw [←h3] at hpk
   obtain⟨a1,a2⟩:=aDu h hkl (b:=gI z0 (k+1) (-1)) (fun i hi=>by rw [h3];exact aR9 h2 hi) (aF4 aJA) hK
   have e1:=aCo (G:=gk (Mf d v l) k) (k:=k) (j:=k+1) (N:=off v l l.length) (b:=z0) (x:=-1)
   rw [aCv] at e1
   have c4:aP (((k+3:Nat):Int)-2)=some ((k+1:Nat):Int):=by rw [show((k+3:Nat):Int)-2=((k+1:Nat):Int) by omega,kM (by omega)]
   have ep:(⟨(p0 r).n,-1⟩:aF)=⟨0,-1⟩:=rfl
   simp only [aY,tG,dT (show(k:Int)<(off v l l.length:Int) by omega),bT,hu,oB,hcl,aBX h1,qF (show((2:Nat):Int)≠0 by omega),qF (show((2:Nat):Int)≠1 by omega),qT (show((2:Nat):Int)=2 from rfl),bO,dV (f:=p0) h1,rX (f:=p0) h1,aJT,ep,hpk,c3,c4,rdO hj,aBU hj,dV (f:=gk (Mf d v l) k (k+1)) hkl,rX (f:=gk (Mf d v l) k (k+1)) hkl,aD4,e1,hz,a1,a2,mS (i:=k) (by omega)]
   exact ih
  ·have hj1:k-2<off v l l.length:=by omega
   have hj2:k-1<off v l l.length:=by omega
   have e1:=aCo (G:=gk (Mf d v l) k) (k:=k) (j:=k-2) (N:=off v l l.length) (b:=z0) (x:=1)
   rw [aCv] at e1
   have e2:=aCo (G:=gk (Mf d v l) k) (k:=k) (j:=k-1) (N:=off v l l.length) (b:=gI z0 (k-2) 1) (x:=1)
   have e3:zS (aAu (gk (Mf d v l) k) k (gI (gI z0 (k-2) 1) (k-1) 1)) (off v l l.length)=zS (gk (Mf d v l) (k+1)) (off v l l.length):=aN2 fun i hi=>by
    rw [h3,aSb h2,aR6 h2 hi];rfl
   have c1:aP (((k+1:Nat):Int)-3)=some ((k-2:Nat):Int):=by rw [show((k+1:Nat):Int)-3=((k-2:Nat):Int) by omega,kM (by omega)]
   have c2:aP ((k:Int)+2)=some ((k+2:Nat):Int):=by rw [kM (by omega)];rfl
   have c4:aP (((k+2:Nat):Int)-3)=some ((k-1:Nat):Int):=by rw [show((k+2:Nat):Int)-3=((k-1:Nat):Int) by omega,kM (by omega)]
   simp only [aY,tG,dT (show(k:Int)<(off v l l.length:Int) by omega),bT,hu,oB,hcl,aBX h1,qF (show((3:Nat):Int)≠0 by omega),qF (show((3:Nat):Int)≠1 by omega),qF (show((3:Nat):Int)≠2 by omega),qT (show((3:Nat):Int)=3 from rfl),bO,mS (i:=k) (by omega),c1,c2,c4,rdO hj1,rdO hj2,aBU hj1,dV (f:=gk (Mf d v l) k (k-2)) hkl,rX (f:=gk (Mf d v l) k (k-2)) hkl,aD4,e1,aBU hj2,dV (f:=aAu (gk (Mf d v l) k) k (gI z0 (k-2) 1) (k-1)) hkl,rX (f:=aAu (gk (Mf d v l) k) k (gI z0 (k-2) 1) (k-1)) hkl,e2,e3]
   exact ih
theorem aHW {d:List aG} {f v:List Rat} {l:List aA} (h:ScB d f v l) {K:Nat} (hK:5000≤K):l7 K ⟨d,f,v,l⟩=some (mx (Mf d v l) (off v l l.length) (off v l l.length),mp (qf d (oA f) v l) (off v l l.length)):=by
 have h8:=h.m8
 have hn:=h.n8
 have h4:=rI (v:=v) (l:=l) l.length
 have hrb:RsB l:=fun r hr=>(h.sb.sl r hr).1
 have e1:=aMW (v:=v) (l:=l) (m:=l.length) (by omega) K (off v l l.length) 0 K (by omega) (by omega)
 have e2:mp (fun j=>if j<0 then j+1 else 0) (off v l l.length)=mp (fun _=>(0:Nat)) (off v l l.length):=bZ fun j _=>if_neg (by omega)
 rw [e2] at e1
 have e3:([]::mx (fun _=>z0) 0 (off v l l.length):List (List Rat))=[[]]:=rfl
 rw [e3] at e1
 simp only [Int.natCast_zero] at e1
 have hc:(1+9)*24*l.length≤400000000:=by omega
 have hp0:PB' 1 l.length p0:=fun r _=>⟨Bd.zero,Bd.zero⟩
 have e4:=aGE (f0:=f) (v0:=v) (p:=p0) h.sb.sd (show d.length≤1000 by omega) h.fbd hrb h.ir (by omega) hp0 (by omega) hc (show 2000≤K by omega)
 rw [←h.fmp] at e4
 have hb:=aDL (p:=p0) h.sb.sd h.fbd hrb h.ir hp0 (by omega) (by omega) (by omega) hc
 have e5:=aMv (d:=d) (f:=f) (v:=v) h.sb.sl hb (by unfold aIA;omega) (by omega) (show 13≤K by omega) (off v l l.length) 0 K (by omega) (by omega)
 have e6:mp (fun j=>if j<0 then rv v l (mp (acc d (oA f) l p0) d.length) j else 0) (off v l l.length)=mp (fun _=>(0:Rat)) (off v l l.length):=bZ fun j _=>if_neg (by omega)
 rw [e6] at e5
 simp only [Int.natCast_zero] at e5
 have e7:=aJS h hK (off v l l.length) 0 K (by omega) (by omega)
 have e8:zS (gk (Mf d v l) 0) (off v l l.length)=zS (fun _=>z0) (off v l l.length):=uO fun i c _ _=>if_neg (by omega)
 rw [e8] at e7
 simp only [Int.natCast_zero] at e7
 have e9:zS (gk (Mf d v l) (off v l l.length)) (off v l l.length)=zS (Mf d v l) (off v l l.length):=uO fun i c _ hc=>if_pos hc
 rw [e9] at e7
 simp only [l7,aDa h.sb.sv hrb (show l.length≤1000 by omega) (show 2000≤K by omega),oB,tG,aBx (z:=(0:Nat)) (n:=off v l l.length) (by omega),aBx (z:=(0:Rat)) (n:=off v l l.length) (by omega),e1,lS,aBx (z:=(⟨0,0⟩:aF)) (n:=l.length) (by omega),show mp (fun _=>(⟨0,0⟩:aF)) l.length=mp p0 l.length from rfl,e4,lI,e5,jB,aG6,e7,k7,aQK]
 rfl
end Go.Proofs.YtcjdedkdoagifaaGreat
set_option linter.unusedVariables false
namespace Go.Proofs.YtcjdedkdoagifaaGreat
/-- A number that is whole when it is multiplied so often. -/
def dn (D e M:Nat) (x:Rat):Prop:=isZ M (x*((D^e:Nat):Rat))
theorem dn.mono {D e M N:Nat} {x:Rat} (h:dn D e M x) (hn:M≤N):dn D e N x:=isZ.mono h hn
theorem dn.zero {D e M:Nat}:dn D e M 0:=⟨0,by rw [Rat.zero_mul];rfl,Nat.zero_le _⟩
theorem dn.add {D e M N:Nat} {x y:Rat} (h:dn D e M x) (k:dn D e N y):dn D e (M+N) (x+y):=by
 unfold dn;rw [Rat.add_mul];exact isZ.add h k
theorem dn.neg {D e M:Nat} {x:Rat} (h:dn D e M x):dn D e M (-x):=by
 obtain⟨q,h1,h2⟩:=h
 exact⟨-q,by rw [Rat.neg_mul,h1,Rat.intCast_neg],by omega⟩
theorem dn.mul {D e e' M N:Nat} {x y:Rat} (h:dn D e M x) (k:dn D e' N y):dn D (e+e') (M*N) (x*y):=by
 have:=isZ.mul h k
 unfold dn
 rw [Nat.pow_add,Rat.natCast_mul]
 have e2:x*y*(((D^e:Nat):Rat)*((D^e':Nat):Rat))=x*((D^e:Nat):Rat)*(y*((D^e':Nat):Rat)):=by
  rw [Rat.mul_assoc,←Rat.mul_assoc y,Rat.mul_comm y,Rat.mul_assoc ((D^e:Nat):Rat),←Rat.mul_assoc]
 rw [e2];exact this
theorem dn.up {D e M:Nat} {x:Rat} (h:dn D e M x):dn D (e+1) (M*D) x:=by
 have h1:dn D 1 D 1:=⟨(D:Int),by rw [Rat.one_mul,Nat.pow_one];rfl,by simp⟩
 have:=h.mul h1
 rwa [Rat.mul_one] at this
structure DD (D:Nat) (d:List aG) (f:Nat→Rat) (l:List aA):Prop where
 pos:1≤D
 inv:∀x∈d,dn D 1 (256*D) x.inv
 fl:∀j,j<d.length→dn D 1 (256*D) (f j)
 tj:∀r∈l,∀t∈r.j,dn D 1 (256*D) t.k
 tt:∀r∈l,∀t∈r.t,dn D 1 (256*D) t.k
 mu:∀r∈l,dn D 1 (256*D) r.mu
theorem aMG {D M:Nat} {j:Nat}:∀(l:List aE),(∀t∈l,dn D 1 M t.k)→dn D 1 (l.length*M) (cf l j)
 |[],_=>dn.zero
 |t::l,h=>by
  have h1:=aMG (j:=j) l fun t ht=>h t (List.mem_cons_of_mem _ ht)
  show dn D 1 ((l.length+1)*M) ((if t.dof=(j:Int) then t.k else 0)+cf l j)
  rw [Nat.succ_mul,Nat.add_comm]
  refine dn.add ?_ h1
  split
  ·exact h t List.mem_cons_self
  ·exact dn.zero
theorem aJ4 {D M e P:Nat} {l:List aA} {p:Nat→aF} {j:Nat} (hj:∀r∈l,∀t∈r.j,dn D 1 M t.k) (ht:∀r∈l,∀t∈r.t,dn D 1 M t.k) (hl:RsB l) (hp:∀r,r<l.length→dn D e P (p r).n∧dn D e P (p r).f):∀m,m≤l.length→dn D (1+e) (m*(24*M*P)) (ptot l p m j)
 |0,_=>dn.zero
 |m+1,hm=>by
  have h1:=aJ4 (j:=j) hj ht hl hp m (by omega)
  have hr:=k8 (l:=l) (i:=m) (by omega)
  obtain⟨p1,p2⟩:=hp m (by omega)
  have c1:=(aMG (j:=j) (gH l m).j (hj _ hr)).mono (Nat.mul_le_mul_right M (hl _ hr).1.1)
  have c2:=(aMG (j:=j) (gH l m).t (ht _ hr)).mono (Nat.mul_le_mul_right M (hl _ hr).2.1)
  have h2:=(c1.mul p1).add (c2.mul p2)
  show dn D (1+e) _ (ptot l p m j+rcq l p m j)
  rw [Nat.succ_mul]
  exact h1.add (h2.mono (by rw [←Nat.add_mul,←Nat.add_mul];exact Nat.le_refl _))
theorem aLI {D M e A n:Nat} {a:Nat→Rat} (ha:∀j,j<n→dn D e A (a j)):∀(l:List aE) (x:Rat) (X:Nat),(∀t∈l,dn D 1 M t.k)→dn D (1+e) X x→dn D (1+e) (X+l.length*(M*A)) (rtf (mp a n) l x)
 |[],x,X,_,hx=>hx.mono (by simp)
 |t::l,x,X,h,hx=>by
  have h1:dn D (1+e) (M*A) (trm (mp a n) t):=by
   unfold trm
   rw [bF]
   by_cases hc:0≤t.dof∧t.dof<(n:Int)
   ·rw [decide_eq_true hc]
    show dn D (1+e) _ (t.k*oA _ _)
    rw [aAp (by omega)]
    exact(h t List.mem_cons_self).mul (ha _ (by omega))
   ·rw [decide_eq_false hc];exact dn.zero
  have:=aLI ha l (x+trm (mp a n) t) (X+M*A) (fun t ht=>h t (List.mem_cons_of_mem _ ht)) (hx.add h1)
  refine this.mono ?_
  rw [List.length_cons,Nat.succ_mul];omega
theorem aOO {D M e A n:Nat} {a:Nat→Rat} (ha:∀j,j<n→dn D e A (a j)) {l:List aE} (hl:l.length≤12) (h:∀t∈l,dn D 1 M t.k):dn D (1+e) (12*(M*A)) (rt l (mp a n)):=
 (aLI ha l 0 0 h dn.zero).mono (by rw [Nat.zero_add];exact Nat.mul_le_mul_right _ hl)
theorem aOM {D e A n k:Nat} {d:List aG} {f:Nat→Rat} {v:List Rat} {l:List aA} {a:Nat→Rat} (h:DD D d f l) (hl:RsB l) (ha:∀j,j<n→dn D e A (a j)) (hk:k<off v l l.length):dn D (1+e) (12*(256*D*A)) (rv v l (mp a n) k):=by
 obtain⟨r,q,h1,h2,h3⟩:=tI l.length k hk
 have hr:=k8 h1
 have bj:=aOO ha (hl _ hr).1.1 (h.tj _ hr)
 have bt:=aOO ha (hl _ hr).2.1 (h.tt _ hr)
 rw [rv0 h2 h1 h3]
 split
 ·exact bj
 ·split
  ·exact bt
  ·split
   ·exact bt.neg
   ·exact dn.zero
theorem aFl {D k j:Nat}:dn D 0 1 (ek k j):=by
 unfold ek gI z0
 split
 ·exact⟨1,by rw [Rat.one_mul];rfl,by decide⟩
 ·exact dn.zero
theorem aQ5 {D:Nat} {d:List aG} {f:Nat→Rat} {v:List Rat} {l:List aA} (h:DD D d f l) {k r:Nat} (hr:r<l.length):dn D 1 (512*D) (pz v l (ek k) r).n∧dn D 1 (512*D) (pz v l (ek k) r).f:=by
 have h0:dn D 1 (1*D) (ek k (off v l r)):=aFl.up
 have hD:=h.pos
 unfold pz
 split
 ·exact⟨h0.mono (by omega),dn.zero⟩
 ·split
  ·refine⟨h0.mono (by omega),?_⟩
   have hb:=aJ2 (rt (gH l r).t v)
   have c:dn D 0 1 (((-(rt (gH l r).t v).num.sign:Int):Rat)/((1:Int):Rat)):=⟨-(rt (gH l r).t v).num.sign,by
    rw [Rat.div_def,show(((1:Int):Rat))⁻¹=1 by decide+kernel,Nat.pow_zero,Rat.mul_one];exact Rat.mul_one _,by omega⟩
   have:=c.mul ((h.mu _ (k8 hr)).mul (aFl (D:=D) (k:=k) (j:=off v l r)))
   exact this.mono (by omega)
  ·refine⟨h0.mono (by omega),?_⟩
   have:=(aFl (D:=D) (k:=k) (j:=off v l r+1)).add (aFl (D:=D) (k:=k) (j:=off v l r+2)).neg
   rw [←Rat.sub_eq_add_neg] at this
   exact this.up.mono (by omega)
theorem aMt {D e P m:Nat} {d:List aG} {f g:Nat→Rat} {l:List aA} {p:Nat→aF} (h:DD D d f l) (hl:RsB l) (hm:l.length≤m) {X:Nat} (hg:∀j,j<d.length→dn D (1+e) X (g j)) (hp:∀r,r<l.length→dn D e P (p r).n∧dn D e P (p r).f):∀j,j<d.length→dn D (1+e+1) ((X+m*(24*(256*D)*P))*(256*D)) (acc d g l p j):=fun j hj=>
 ((hg j hj).add ((aJ4 h.tj h.tt hl hp l.length (Nat.le_refl _)).mono (Nat.mul_le_mul_right _ hm))).mul (h.inv _ (aAY hj))
theorem aRS {D k i:Nat} {d:List aG} {f:Nat→Rat} {v:List Rat} {l:List aA} (h:DD D d f l) (hi:i<off v l l.length):dn D 1 (300*D) (zv v l (ek k) i):=by
 obtain⟨r,q,h1,h2,h3⟩:=tI l.length i hi
 have hD:=h.pos
 have u:∀j,dn D 1 (1*D) (ek k j):=fun j=>aFl.up
 rw [zv0 h2 h1 h3]
 split
 ·exact dn.zero
 ·split
  ·exact(u _).mono (by omega)
  ·split
   ·exact(u _).mono (by omega)
   ·have:=((h.mu _ (k8 h1)).mul (aFl (D:=D) (k:=k) (j:=i-3))).add ((u (i-2)).add (u (i-1))).neg
    rw [←Rat.sub_eq_add_neg] at this
    exact this.mono (by omega)
theorem four {D:Nat}:12*(256*D*((0+5*(24*(256*D)*(512*D)))*(256*D)))+300*D*D*D*D≤2^50*(D*D*D*D):=by
 have e:12*(256*D*((0+5*(24*(256*D)*(512*D)))*(256*D)))=(12*256*5*24*256*512*256)*(D*D*D*D):=by
  rw [Nat.zero_add]
  simp only [Nat.mul_assoc,Nat.mul_left_comm,Nat.mul_comm]
 have e2:300*D*D*D*D=300*(D*D*D*D):=by simp only [Nat.mul_assoc]
 rw [e,e2]
 generalize D*D*D*D=x
 omega
theorem aRa {D:Nat} {d:List aG} {f:Nat→Rat} {v:List Rat} {l:List aA} (h:DD D d f l) (hl:RsB l) (hm:l.length≤5) {i k:Nat} (hi:i<off v l l.length):dn D 4 (2^50*(D*D*D*D)) (Mf d v l i k):=by
 have a:=aMt (e:=1) (g:=z0) (X:=0) h hl hm (fun j _=>dn.zero) (fun r hr=>aQ5 (v:=v) (k:=k) h hr)
 have r:=aOM (v:=v) h hl a hi
 have z:=(aRS (k:=k) h hi).up.up.up
 exact(r.add z).mono four
end Go.Proofs.YtcjdedkdoagifaaGreat
set_option linter.unusedVariables false
namespace Go.Proofs.YtcjdedkdoagifaaGreat
theorem aNM (x:Rat):x*((x.den:Nat):Rat)=(x.num:Rat):=by
 have h:((x.den:Nat):Rat)≠0:=fun e=>x.den_nz (by exact_mod_cast e)
 have e:x=(x.num:Rat)/((x.den:Nat):Rat):=by
  conv=>lhs;rw [←Rat.num_divInt_den x,Rat.divInt_eq_div]
  rfl
 conv=>lhs;lhs;rw [e]
 exact Rat.div_mul_cancel h
theorem aJ3:∀xs:List Rat,(∀x∈xs,Bd 8 x)→∃D:Nat,1≤D∧D≤256^xs.length∧∀x∈xs,dn D 1 (256*D) x
 |[],_=>⟨1,Nat.le_refl _,Nat.le_refl _,fun x h=>absurd h List.not_mem_nil⟩
 |x::xs,h=>by
  obtain⟨D,h1,h2,h3⟩:=aJ3 xs fun y hy=>h y (List.mem_cons_of_mem _ hy)
  obtain⟨b1,b2⟩:=h x List.mem_cons_self
  have hp:=x.den_pos
  have hle:D*x.den≤256^(xs.length+1):=by
   rw [Nat.pow_succ];exact Nat.mul_le_mul h2 (by omega)
  refine⟨D*x.den,Nat.mul_pos h1 hp,hle,fun y hy=>?_⟩
  rcases List.mem_cons.1 hy with rfl|hy
  ·refine⟨y.num*D,?_,?_⟩
   ·rw [Nat.pow_one,Rat.natCast_mul,Rat.mul_comm (D:Rat),←Rat.mul_assoc,aNM,Rat.intCast_mul];rfl
   ·rw [Int.natAbs_mul,Int.natAbs_natCast]
    refine Nat.le_trans (Nat.mul_le_mul_right D (show y.num.natAbs≤256 by omega)) ?_
    exact Nat.mul_le_mul_left 256 (Nat.le_mul_of_pos_right D hp)
  ·obtain⟨q,q1,q2⟩:=h3 y hy
   refine⟨q*x.den,?_,?_⟩
   ·rw [Nat.pow_one] at q1 ⊢
    rw [Rat.natCast_mul,←Rat.mul_assoc,q1,Rat.intCast_mul];rfl
   ·rw [Int.natAbs_mul,Int.natAbs_natCast,←Nat.mul_assoc]
    exact Nat.mul_le_mul_right _ q2
def aKT (r:aA):List Rat:=r.mu::(r.j.map (·.k)++r.t.map (·.k))
def aNp (d:List aG) (f:Nat→Rat) (l:List aA):List Rat:=d.map (·.inv)++mp f d.length++l.flatMap aKT
theorem aNt {r:aA} (h:RB r):(aKT r).length≤25:=by
 have h1:=h.1.1
 have h2:=h.2.1
 unfold aKT
 simp only [List.length_cons,List.length_append,List.length_map]
 omega
theorem aFD:∀l:List aA,RsB l→(l.flatMap aKT).length≤25*l.length
 |[],_=>Nat.le_refl _
 |r::l,h=>by
  have h1:=aFD l fun x hx=>h x (List.mem_cons_of_mem _ hx)
  have h2:=aNt (h r List.mem_cons_self)
  rw [List.flatMap_cons,List.length_append,List.length_cons]
  omega
theorem aSz {d:List aG} {f:Nat→Rat} {l:List aA} (hd:∀x∈d,Bd 8 x.inv) (hn:d.length≤12) (hf:∀j,j<d.length→Bd 8 (f j)) (hl:RsC l) (hm:l.length≤5):∃D,DD D d f l∧D≤256^149:=by
 have hrb:RsB l:=fun r hr=>(hl r hr).1
 obtain⟨D,h1,h2,h3⟩:=aJ3 (aNp d f l) fun x hx=>by
  unfold aNp at hx
  rcases List.mem_append.1 hx with hx|hx
  ·rcases List.mem_append.1 hx with hx|hx
   ·obtain⟨y,hy,rfl⟩:=List.mem_map.1 hx
    exact hd y hy
   ·exact aAR hf x hx
  ·obtain⟨r,hr,hx⟩:=List.mem_flatMap.1 hx
   unfold aKT at hx
   rcases List.mem_cons.1 hx with rfl|hx
   ·exact(hl r hr).2
   ·rcases List.mem_append.1 hx with hx|hx
    ·obtain⟨t,ht,rfl⟩:=List.mem_map.1 hx
     exact(hl r hr).1.1.2 t ht
    ·obtain⟨t,ht,rfl⟩:=List.mem_map.1 hx
     exact(hl r hr).1.2.2 t ht
 have hlen:(aNp d f l).length≤149:=by
  have:=aFD l hrb
  unfold aNp
  simp only [List.length_append,List.length_map,bF]
  omega
 have inR:∀r∈l,∀x∈aKT r,x∈aNp d f l:=fun r hr x hx=>List.mem_append.2 (.inr (List.mem_flatMap.2 ⟨r,hr,hx⟩))
 refine⟨D,⟨h1,fun x hx=>h3 _ (List.mem_append.2 (.inl (List.mem_append.2 (.inl (List.mem_map.2 ⟨x,hx,rfl⟩))))),fun j hj=>h3 _ (List.mem_append.2 (.inl (List.mem_append.2 (.inr (List.mem_map.2 ⟨j,List.mem_range.2 hj,rfl⟩))))),fun r hr t ht=>h3 _ (inR r hr _ ?_),fun r hr t ht=>h3 _ (inR r hr _ ?_),fun r hr=>h3 _ (inR r hr _ List.mem_cons_self)⟩,Nat.le_trans h2 (Nat.pow_le_pow_right (by omega) hlen)⟩
 ·exact List.mem_cons_of_mem _ (List.mem_append.2 (.inl (List.mem_map.2 ⟨t,ht,rfl⟩)))
 ·exact List.mem_cons_of_mem _ (List.mem_append.2 (.inr (List.mem_map.2 ⟨t,ht,rfl⟩)))
def k5 (M:Nat→Nat→Rat) (q:Nat→Rat) (n i c:Nat):Rat:=
 if c<n then(if i=c then 1 else 0) else if c<2*n then -(M i (c-n)) else if c=2*n then -1 else q i
theorem aIx {M:Nat→Nat→Rat} {q:Nat→Rat} {n:Nat}:TI n (2*n+2) (k5 M q n) (k5 M q n) (fun j=>j):=TI.start (by omega) fun i j hi hj=>if_pos hj
theorem aQx {D e:Nat} (h:1≤D):dn D e (D^e) 1:=⟨((D^e:Nat):Int),by rw [Rat.one_mul];rfl,by simp⟩
theorem aRL {D:Nat} {d:List aG} {f:Nat→Rat} {v:List Rat} {l:List aA} (h:DD D d f l) (hl:RsB l) (hm:l.length≤5) {i:Nat} (hi:i<off v l l.length):dn D 4 (2^50*(D*D*D*D)) (qf d f v l i):=by
 have a:=aMt (e:=0) (g:=f) (P:=0) (p:=p0) h hl hm h.fl (fun r hr=>⟨dn.zero,dn.zero⟩)
 have r:=(aOM (v:=v) h hl a hi).up
 refine r.mono ?_
 have e:12*(256*D*((256*D+5*(24*(256*D)*0))*(256*D)))*D=(12*256*256*256)*(D*D*D*D):=by
  simp only [Nat.mul_zero,Nat.add_zero]
  simp only [Nat.mul_assoc,Nat.mul_left_comm,Nat.mul_comm]
 rw [e]
 generalize D*D*D*D=x
 omega
theorem aQh {D:Nat} {d:List aG} {f:Nat→Rat} {v:List Rat} {l:List aA} (h:DD D d f l) (hl:RsB l) (hm:l.length≤5) {i c:Nat} (hi:i<off v l l.length):dn D 4 (2^50*(D*D*D*D)) (k5 (Mf d v l) (qf d f v l) (off v l l.length) i c):=by
 have hD:=h.pos
 have o:dn D 4 (2^50*(D*D*D*D)) (1:Rat):=(aQx hD).mono (by
  have:D^4=D*D*D*D:=by simp [Nat.pow_succ]
  rw [this]
  generalize D*D*D*D=x
  omega)
 unfold k5
 split
 ·split
  ·exact o
  ·exact dn.zero
 ·split
  ·exact(aRa h hl hm hi).neg
  ·split
   ·exact o.neg
   ·exact aRL h hl hm hi
end Go.Proofs.YtcjdedkdoagifaaGreat
set_option linter.unusedVariables false
namespace Go.Proofs.YtcjdedkdoagifaaGreat
/-- The rows of a tableau as they lie. -/
structure aAj (n w:Nat) (rs:List (List Rat)) (od:Nat→Nat) (T:Nat→Nat→Rat):Prop where
 lt:∀i,i<n→od i<rs.length
 inj:∀i j,i<n→j<n→od i=od j→i=j
 row:∀i,i<n→rs.getD (od i) []=mp (T i) w
def iV (n j:Nat):Nat:=if j=0 then 2*n+1 else j-1
def lx (T:Nat→Nat→Rat) (n i:Nat) (c:Rat) (k:Nat) (d:Rat):Nat→Nat→Bool
 |0,_=>false
 |t+1,j=>bif decide (T i (iV n j)/c=T k (iV n j)/d) then lx T n i c k d t (j+1) else decide (T i (iV n j)/c<T k (iV n j)/d)
def les (T:Nat→Nat→Rat) (n i:Nat) (c:Rat) (k:Nat) (d:Rat):Bool:=lx T n i c k d (n+1) 0
theorem aJX {m k:Nat} {a b:Rat} (ha:Bd m a) (hb:Bd k b) (hm:m≤1073741824) (hk:k≤1073741824):aGC a b=some (if a<b then -1 else if b<a then 1 else 0):=by
 unfold aGC;rw [ha.qs hm,hb.qs hk];rfl
theorem aCQ {a b:Rat}:((if a<b then -1 else if b<a then 1 else 0:Int)=0↔a=b)∧decide ((if a<b then -1 else if b<a then 1 else 0:Int)<0)=decide (a<b):=by
 by_cases h:a<b
 ·rw [if_pos h]
  refine⟨⟨fun h2=>absurd h2 (by decide),fun h2=>?_⟩,by rw [decide_eq_true h];rfl⟩
  rw [h2] at h;exact absurd h (Rat.lt_irrefl)
 ·rw [if_neg h]
  by_cases h2:b<a
  ·rw [if_pos h2]
   refine⟨⟨fun h3=>absurd h3 (by decide),fun h3=>?_⟩,by rw [decide_eq_false h];rfl⟩
   rw [h3] at h2;exact absurd h2 (Rat.lt_irrefl)
  ·rw [if_neg h2]
   exact⟨⟨fun _=>Rat.le_antisymm (Rat.not_lt.1 h2) (Rat.not_lt.1 h),fun _=>rfl⟩,by rw [decide_eq_false h];rfl⟩
theorem aJx {n j:Nat} (h:j≤n):iV n j<2*n+2:=by unfold iV;split<;>omega
theorem aE1 {n:Nat} {rs:List (List Rat)} {od:Nat→Nat} {T:Nat→Nat→Rat} (hr:aAj n (2*n+2) rs od T) {B C:Nat} (hT:Bdx n (2*n+2) B T) {i k:Nat} (hi:i<n) (hk:k<n) {c d:Rat} (hc:Bd C c) (hd:Bd C d) (hBC:B+C≤500000000) (hn:n≤1000) (K:Nat):
  ∀(t j fu:Nat),j+t=n+1→t<fu→aT K (i:Int) c (k:Int) d (n:Int) (mp od n) rs fu ((j:Int)-1)=some (.ret (lx T n i c k d t j))∨(lx T n i c k d t j=false∧aT K (i:Int) c (k:Int) d (n:Int) (mp od n) rs fu ((j:Int)-1)=some (.go ()))
 |0,j,fu,hj,hf=>by
  obtain⟨fu',rfl,_⟩:=a8 hf
  refine .inr ⟨rfl,?_⟩
  simp only [aT,dF (show¬(j:Int)-1<(n:Int) by omega),bO]
 |t+1,j,fu,hj,hf=>by
  obtain⟨fu',rfl,_⟩:=a8 hf
  have hl:=aJx (n:=n) (j:=j) (by omega)
  have b1:=(hT i _ hi hl).div hc
  have b2:=(hT k _ hk hl).div hd
  have ih:=aE1 hr hT hi hk hc hd hBC hn K t (j+1) fu' (by omega) (by omega)
  have key:dY K (i:Int) c (k:Int) d (mp od n) rs ((j:Int)-1) (aT K (i:Int) c (k:Int) d (n:Int) (mp od n) rs fu') ((iV n j:Nat):Int)=bif decide (T i (iV n j)/c=T k (iV n j)/d) then aT K (i:Int) c (k:Int) d (n:Int) (mp od n) rs fu' (((j+1:Nat):Int)-1) else some (.ret (decide (T i (iV n j)/c<T k (iV n j)/d))):=by
   simp only [dY,dV (f:=od) hi,dV (f:=od) hk,oB,hr.row i hi,hr.row k hk,dV (f:=T i) hl,dV (f:=T k) hl,aA4 (hT i _ hi hl) hc (by omega) (by omega),aA4 (hT k _ hk hl) hd (by omega) (by omega),aJX b1 b2 (by omega) (by omega)]
   by_cases h:T i (iV n j)/c=T k (iV n j)/d
   ·rw [nF (aCQ.1.2 h),bO,decide_eq_true h,bT,kM (by omega),oB]
    congr 1
    omega
   ·rw [nT (fun h2=>h (aCQ.1.1 h2)),bT,decide_eq_false h,bO,aCQ.2]
  have main:aT K (i:Int) c (k:Int) d (n:Int) (mp od n) rs (fu'+1) ((j:Int)-1)=bif decide (T i (iV n j)/c=T k (iV n j)/d) then aT K (i:Int) c (k:Int) d (n:Int) (mp od n) rs fu' (((j+1:Nat):Int)-1) else some (.ret (decide (T i (iV n j)/c<T k (iV n j)/d))):=by
   rw [←key]
   by_cases h0:j=0
   ·subst h0
    have c1:aP (2*(n:Int))=some (2*(n:Int)):=kM (by omega)
    have c2:aP (2*(n:Int)+1)=some ((iV n 0:Nat):Int):=by
     rw [kM (by omega)];congr 1
    simp only [aT,dT (show((0:Nat):Int)-1<(n:Int) by omega),bT,dT (show((0:Nat):Int)-1<0 by omega),c1,c2,oB]
   ·have e:((iV n j:Nat):Int)=(j:Int)-1:=by unfold iV;rw [if_neg h0];omega
    rw [e]
    simp only [aT,dT (show(j:Int)-1<(n:Int) by omega),bT,dF (show¬(j:Int)-1<0 by omega),bO]
  rw [main]
  have el:lx T n i c k d (t+1) j=bif decide (T i (iV n j)/c=T k (iV n j)/d) then lx T n i c k d t (j+1) else decide (T i (iV n j)/c<T k (iV n j)/d):=rfl
  rw [el]
  by_cases h:T i (iV n j)/c=T k (iV n j)/d
  ·rw [decide_eq_true h,bT,bT];exact ih
  ·rw [decide_eq_false h,bO,bO];exact .inl rfl
theorem aG8 {n:Nat} {rs:List (List Rat)} {od:Nat→Nat} {T:Nat→Nat→Rat} {a6:List Int} (hr:aAj n (2*n+2) rs od T) {B C:Nat} (hT:Bdx n (2*n+2) B T) {i k:Nat} (hi:i<n) (hk:k<n) {c d:Rat} (hc:Bd C c) (hd:Bd C d) (hBC:B+C≤500000000) (hn:n≤1000) {K:Nat} (hK:2000≤K):dZ K (i:Int) c (k:Int) d (n:Int) (mp od n) a6 rs=some (les T n i c k d):=by
 have:=aE1 hr hT hi hk hc hd hBC hn K (n+1) 0 K (by omega) (by omega)
 rw [show((0:Nat):Int)-1=-1 from rfl] at this
 rcases this with h|⟨h1,h2⟩
 ·simp only [dZ,h,oB];rfl
 ·simp only [dZ,h2,oB,iC]
  exact congrArg some h1.symm
def kf (T:Nat→Nat→Rat) (n i:Nat) (c:Rat) (j:Nat):Rat:=T i (iV n j)/c
theorem aJc {n:Nat} {T:Nat→Nat→Rat} {B C i:Nat} {c:Rat} (hT:Bdx n (2*n+2) B T) (hi:i<n) (hc:Bd C c) (hB:B≤1073741824) (hC:C≤1073741824) (hn:n≤1000) (K:Nat):∀(t j fu:Nat),j+t=n→t<fu→l5 K (mp (T i) (2*n+2)) (n:Int) c fu (mp (kf T n i c) (j+1)) (j:Int)=some (mp (kf T n i c) (n+1))
 |0,j,fu,hj,hf=>by
  obtain⟨fu',rfl,_⟩:=a8 hf
  have e:j=n:=by omega
  subst e
  simp only [l5,dF (show¬(j:Int)<(j:Int) by omega),bO]
 |t+1,j,fu,hj,hf=>by
  obtain⟨fu',rfl,_⟩:=a8 hf
  have e:kf T n i c (j+1)=T i j/c:=by unfold kf iV;rw [if_neg (by omega),Nat.add_sub_cancel]
  have ap:=apM (g:=kf T n i c) (i:=j+1) (by omega)
  rw [e] at ap
  simp only [l5,dT (show(j:Int)<(n:Int) by omega),bT,dV (f:=T i) (n:=2*n+2) (i:=j) (by omega),oB,aA4 (hT i j hi (by omega)) hc hB hC,ap,mS (i:=j) (by omega)]
  exact aJc hT hi hc hB hC hn K t (j+1) fu' (by omega) (by omega)
theorem aGn {n:Nat} {T:Nat→Nat→Rat} {B C i:Nat} {c:Rat} (hT:Bdx n (2*n+2) B T) (hi:i<n) (hc:Bd C c) (hB:B≤1073741824) (hC:C≤1073741824) (hn:n≤1000) {K:Nat} (hK:2000≤K):nI K (mp (T i) (2*n+2)) (n:Int) c=some (mp (kf T n i c) (n+1)):=by
 have:=aJc hT hi hc hB hC hn K n 0 K (by omega) (by omega)
 simp only [Int.natCast_zero] at this
 have c1:aP (2*(n:Int))=some (2*(n:Int)):=kM (by omega)
 have c2:aP (2*(n:Int)+1)=some ((2*n+1:Nat):Int):=by rw [kM (by omega)];congr 1
 have e:[T i (2*n+1)/c]=mp (kf T n i c) (0+1):=rfl
 simp only [nI,c1,c2,oB,dV (f:=T i) (n:=2*n+2) (i:=2*n+1) (by omega),aA4 (hT i (2*n+1) hi (by omega)) hc hB hC,e,this,vU]
theorem aFd {n:Nat} {T:Nat→Nat→Rat} {B C i k:Nat} {c d:Rat} (hT:Bdx n (2*n+2) B T) (hi:i<n) (hk:k<n) (hc:Bd C c) (hd:Bd C d) (hBC:B+C≤500000000) (hn:n≤1000) (K:Nat):∀(t j fu:Nat),j+t=n+1→t<fu→iF K (mp (kf T n i c) (n+1)) (mp (kf T n k d) (n+1)) fu (j:Int)=some (.ret (lx T n i c k d t j))∨(lx T n i c k d t j=false∧iF K (mp (kf T n i c) (n+1)) (mp (kf T n k d) (n+1)) fu (j:Int)=some (.go ()))
 |0,j,fu,hj,hf=>by
  obtain⟨fu',rfl,_⟩:=a8 hf
  refine .inr ⟨rfl,?_⟩
  simp only [iF,bF,dF (show¬(j:Int)<((n+1:Nat):Int) by omega),bO]
 |t+1,j,fu,hj,hf=>by
  obtain⟨fu',rfl,_⟩:=a8 hf
  have hl:=aJx (n:=n) (j:=j) (by omega)
  have b1:Bd (B+C) (kf T n i c j):=(hT i _ hi hl).div hc
  have b2:Bd (B+C) (kf T n k d j):=(hT k _ hk hl).div hd
  have ih:=aFd hT hi hk hc hd hBC hn K t (j+1) fu' (by omega) (by omega)
  have el:lx T n i c k d (t+1) j=bif decide (kf T n i c j=kf T n k d j) then lx T n i c k d t (j+1) else decide (kf T n i c j<kf T n k d j):=rfl
  rw [el]
  simp only [iF,bF,dT (show(j:Int)<((n+1:Nat):Int) by omega),bT,dV (f:=kf T n i c) (n:=n+1) (i:=j) (by omega),dV (f:=kf T n k d) (n:=n+1) (i:=j) (by omega),oB,aJX b1 b2 (by omega) (by omega)]
  by_cases h:kf T n i c j=kf T n k d j
  ·rw [nF (aCQ.1.2 h),bO,decide_eq_true h,bT,mS (i:=j) (by omega),oB];exact ih
  ·rw [nT (fun h2=>h (aCQ.1.1 h2)),bT,decide_eq_false h,bO,aCQ.2];exact .inl rfl
theorem aFz {n:Nat} {T:Nat→Nat→Rat} {B C i k:Nat} {c d:Rat} (hT:Bdx n (2*n+2) B T) (hi:i<n) (hk:k<n) (hc:Bd C c) (hd:Bd C d) (hBC:B+C≤500000000) (hn:n≤1000) {K:Nat} (hK:2000≤K):mT K (mp (kf T n i c) (n+1)) (mp (kf T n k d) (n+1))=some (les T n i c k d):=by
 have:=aFd hT hi hk hc hd hBC hn K (n+1) 0 K (by omega) (by omega)
 simp only [Int.natCast_zero] at this
 rcases this with h|⟨h1,h2⟩
 ·simp only [mT,h,oB];rfl
 ·simp only [mT,h2,oB,uT]
  exact congrArg some h1.symm
end Go.Proofs.YtcjdedkdoagifaaGreat
set_option linter.unusedVariables false
namespace Go.Proofs.YtcjdedkdoagifaaGreat
def yC (T:Nat→Nat→Rat) (r c k:Nat):Rat:=T r k/T r c
theorem aH9 {n w r c B:Nat} {T:Nat→Nat→Rat} (hT:Bdx n w B T) (hr:r<n) (hc:c<w) (hB:B≤500000000) (hw:w≤100000) (K:Nat):∀(t k fu:Nat),k+t=w→t<fu→kV K (mx T n w) (r:Int) (c:Int) fu (mp (yC T r c) k) (k:Int)=some (mp (yC T r c) w)
 |0,k,fu,hk,hf=>by
  obtain⟨fu',rfl,_⟩:=a8 hf
  have e:k=w:=by omega
  subst e
  simp only [kV,aBL (g:=T) (w:=k) hr,oB,bF,dF (show¬(k:Int)<(k:Int) by omega),bO]
 |t+1,k,fu,hk,hf=>by
  obtain⟨fu',rfl,_⟩:=a8 hf
  have hkw:k<w:=by omega
  have ap:=apM (g:=yC T r c) (i:=k) (by omega)
  simp only [kV,aBL (g:=T) (w:=w) hr,oB,bF,dT (show(k:Int)<(w:Int) by omega),bT,dV (f:=T r) hkw,dV (f:=T r) hc,aA4 (hT r k hr hkw) (hT r c hr hc) (by omega) (by omega),show T r k/T r c=yC T r c k from rfl,ap,mS (i:=k) (by omega)]
  exact aH9 hT hr hc hB hw K t (k+1) fu' (by omega) (by omega)
theorem aKr {n w r c B k:Nat} {T:Nat→Nat→Rat} (hT:Bdx n w B T) (hr:r<n) (hc:c<w) (hk:k<w):Bd (B+B) (yC T r c k):=(hT r k hr hk).div (hT r c hr hc)
theorem aHo {n w r c i B:Nat} {T:Nat→Nat→Rat} (hT:Bdx n w B T) (hr:r<n) (hc:c<w) (hi:i<n) (hne:i≠r) (hB:B≤200000000) (hw:w≤100000) (K:Nat):∀(t k fu:Nat),k+t=w→t<fu→kO K (mx T n w) (c:Int) (mp (yC T r c) w) (i:Int) fu (mp (nL T r c i) k) (k:Int)=some (mp (nL T r c i) w)
 |0,k,fu,hk,hf=>by
  obtain⟨fu',rfl,_⟩:=a8 hf
  have e:k=w:=by omega
  subst e
  simp only [kO,bF,dF (show¬(k:Int)<(k:Int) by omega),bO]
 |t+1,k,fu,hk,hf=>by
  obtain⟨fu',rfl,_⟩:=a8 hf
  have hkw:k<w:=by omega
  have ap:=apM (g:=nL T r c i) (i:=k) (by omega)
  have e:T i k-T i c*yC T r c k=nL T r c i k:=by unfold nL yC;rw [if_neg hne]
  have b:=aKr hT hr hc hkw
  have b2:=hT i c hi hc
  simp only [kO,bF,dT (show(k:Int)<(w:Int) by omega),bT,aBL (g:=T) (w:=w) hi,oB,dV (f:=T i) hkw,dV (f:=T i) hc,dV (f:=yC T r c) hkw,sD b2 b (by omega) (by omega),aAg (hT i k hi hkw) (b2.mul b) (by omega) (by omega),e,ap,mS (i:=k) (by omega)]
  exact aHo hT hr hc hi hne hB hw K t (k+1) fu' (by omega) (by omega)
theorem aG3 {n w r c B:Nat} {T:Nat→Nat→Rat} (hT:Bdx n w B T) (hr:r<n) (hc:c<w) (hB:B≤200000000) (hw:w≤100000) (hn:n≤100000) {K:Nat} (hK:w<K):∀(t i fu:Nat),i+t=n→t<fu→gD K (mx T n w) (r:Int) (c:Int) (mp (yC T r c) w) fu (mx (nL T r c) i w) (i:Int)=some (mx (nL T r c) n w)
 |0,i,fu,hk,hf=>by
  obtain⟨fu',rfl,_⟩:=a8 hf
  have e:i=n:=by omega
  subst e
  simp only [gD,uJ,dF (show¬(i:Int)<(i:Int) by omega),bO]
 |t+1,i,fu,hk,hf=>by
  obtain⟨fu',rfl,_⟩:=a8 hf
  have hin:i<n:=by omega
  have ap:qD (mx (nL T r c) i w) [mp (nL T r c i) w]=some (mx (nL T r c) (i+1) w):=apM (g:=fun i=>mp (nL T r c i) w) (by omega)
  have ih:=aG3 hT hr hc hB hw hn hK t (i+1) fu' (by omega) (by omega)
  by_cases e:i=r
  ·have e2:mp (yC T r c) w=mp (nL T r c i) w:=bZ fun k _=>by unfold nL yC;rw [if_pos e]
   simp only [gD,uJ,dT (show(i:Int)<(n:Int) by omega),bT,qT (show(i:Int)=(r:Int) by omega)]
   rw [e2] at ih ⊢
   simp only [ap,oB,mS (i:=i) (by omega)]
   exact ih
  ·have h82:=aHo hT hr hc hin e hB hw K w 0 K (by omega) hK
   simp only [Int.natCast_zero,aAl] at h82
   simp only [gD,uJ,dT (show(i:Int)<(n:Int) by omega),bT,qF (show(i:Int)≠(r:Int) by omega),bO,h82,oB,uV,ap,mS (i:=i) (by omega)]
   exact ih
theorem aNW {n w r c B:Nat} {T:Nat→Nat→Rat} (hT:Bdx n w B T) (hr:r<n) (hc:c<w) (hB:B≤200000000) (hw:w≤100000) (hn:n≤100000) {K:Nat} (hK:w+n<K):tO K (mx T n w) (r:Int) (c:Int)=some (mx (nL T r c) n w):=by
 have e1:=aH9 hT hr hc (by omega) hw K w 0 K (by omega) (by omega)
 have e2:=aG3 hT hr hc hB hw hn (K:=K) (by omega) n 0 K (by omega) (by omega)
 have e3:mx (nL T r c) 0 w=[]:=rfl
 rw [e3] at e2
 simp only [Int.natCast_zero,aAl] at e1 e2
 simp only [tO,e1,oB,uQ,e2,uR]
theorem aQd {xs ys:List Rat} (h:xs.length=ys.length):cpL xs ys=ys:=by
 unfold cpL
 rw [h,Nat.min_self,List.take_length,←h,List.drop_length,List.append_nil]
theorem aDR {rs:List (List Rat)} {o p:Nat} {x:List Rat} (ho:o<rs.length):(rs.set o x).getD p []=if p=o then x else rs.getD p []:=by
 rw [List.getD_eq_getElem?_getD,List.getD_eq_getElem?_getD,List.getElem?_set]
 by_cases h:o=p
 ·subst h;rw [if_pos rfl,if_pos ho,if_pos rfl];rfl
 ·rw [if_neg h,if_neg (fun e=>h e.symm)]
theorem aAj.set {n w:Nat} {rs:List (List Rat)} {od:Nat→Nat} {T:Nat→Nat→Rat} (h:aAj n w rs od T) {i:Nat} (hi:i<n) (f:Nat→Rat):aAj n w (rs.set (od i) (mp f w)) od (gI T i f):=
 ⟨fun j hj=>by rw [List.length_set];exact h.lt j hj,h.inj,fun j hj=>by
  rw [aDR (h.lt i hi)]
  by_cases e:j=i
  ·subst e;rw [if_pos rfl,aW]
  ·rw [if_neg (fun e2=>e (h.inj j i hj hi e2)),bY e]
   exact h.row j hj⟩
theorem aAj.congr {n w:Nat} {rs:List (List Rat)} {od:Nat→Nat} {T T':Nat→Nat→Rat} (h:aAj n w rs od T) (e:∀i k,i<n→k<w→T i k=T' i k):aAj n w rs od T':=
 ⟨h.lt,h.inj,fun i hi=>by rw [h.row i hi];exact bZ fun k hk=>e i k hi hk⟩
theorem aHw {w v27 B:Nat} {a5:List (List Rat)} {x22:List Rat} {g:Nat→Rat} {p:Rat} (hx:cpL x22 (a5.getD v27 [])=mp g w) (hg:∀k,k<w→Bd B (g k)) (hp:Bd B p) (hB:B≤1073741824) (hw:w≤100000) (K:Nat):∀(t k fu:Nat),k+t=w→t<fu→cV K a5 x22 v27 p fu (mp (fun j=>if j<k then g j/p else g j) w) (k:Int)=some (mp (fun j=>g j/p) w)
 |0,k,fu,hk,hf=>by
  obtain⟨fu',rfl,_⟩:=a8 hf
  have e:k=w:=by omega
  subst e
  simp only [cV,hx,bF,dF (show¬(k:Int)<(k:Int) by omega),bO]
  exact congrArg some (bZ fun j hj=>if_pos hj)
 |t+1,k,fu,hk,hf=>by
  obtain⟨fu',rfl,_⟩:=a8 hf
  have hkw:k<w:=by omega
  have e1:(fun j=>if j<k then g j/p else g j) k=g k:=if_neg (by omega)
  have e2:mp (gI (fun j=>if j<k then g j/p else g j) k (g k/p)) w=mp (fun j=>if j<k+1 then g j/p else g j) w:=bZ fun j _=>by
   by_cases e:j=k
   ·subst e;rw [aW,if_pos (by omega)]
   ·rw [bY e]
    by_cases hlt:j<k
    ·rw [if_pos hlt,if_pos (by omega)]
    ·rw [if_neg hlt,if_neg (by omega)]
  simp only [cV,hx,bF,dT (show(k:Int)<(w:Int) by omega),bT,dV (f:=fun j=>if j<k then g j/p else g j) hkw,e1,oB,aA4 (hg k hkw) hp hB hB,rX (f:=fun j=>if j<k then g j/p else g j) hkw,e2,mS (i:=k) (by omega)]
  exact aHw hx hg hp hB hw K t (k+1) fu' (by omega) (by omega)
theorem aFs {w o B:Nat} {a5 x66:List (List Rat)} {g q:Nat→Rat} {x:Rat} (ho:o<x66.length) (hne:a5.length≠o) (h66:x66.getD o []=mp g w) (hq:x66.getD a5.length []=mp q w) (hg:∀k,k<w→Bd B (g k)) (hqb:∀k,k<w→Bd (B+B) (q k)) (hx:Bd B x) (hB:B≤200000000) (hw:w≤100000) (K:Nat):∀(t k fu:Nat),k+t=w→t<fu→cS K a5 x66 o x fu (x66.set o (mp (fun j=>if j<k then g j-x*q j else g j) w)) (k:Int)=some (x66.set o (mp (fun j=>g j-x*q j) w))
 |0,k,fu,hk,hf=>by
  obtain⟨fu',rfl,_⟩:=a8 hf
  have e:k=w:=by omega
  subst e
  simp only [cS,h66,bF,dF (show¬(k:Int)<(k:Int) by omega),bO]
  exact congrArg (fun z=>some (x66.set o z)) (bZ fun j hj=>if_pos hj)
 |t+1,k,fu,hk,hf=>by
  obtain⟨fu',rfl,_⟩:=a8 hf
  have hkw:k<w:=by omega
  have e1:(fun j=>if j<k then g j-x*q j else g j) k=g k:=if_neg (by omega)
  have e2:mp (gI (fun j=>if j<k then g j-x*q j else g j) k (g k-x*q k)) w=mp (fun j=>if j<k+1 then g j-x*q j else g j) w:=bZ fun j _=>by
   by_cases e:j=k
   ·subst e;rw [aW,if_pos (by omega)]
   ·rw [bY e]
    by_cases hlt:j<k
    ·rw [if_pos hlt,if_pos (by omega)]
    ·rw [if_neg hlt,if_neg (by omega)]
  have r1:(x66.set o (mp (fun j=>if j<k then g j-x*q j else g j) w)).getD o []=mp (fun j=>if j<k then g j-x*q j else g j) w:=by rw [aDR ho,if_pos rfl]
  have r2:(x66.set o (mp (fun j=>if j<k then g j-x*q j else g j) w)).getD a5.length []=mp q w:=by rw [aDR ho,if_neg hne];exact hq
  simp only [cS,h66,bF,dT (show(k:Int)<(w:Int) by omega),bT,r1,r2,dV (f:=fun j=>if j<k then g j-x*q j else g j) hkw,dV (f:=q) hkw,e1,oB,sD hx (hqb k hkw) (by omega) (by omega),aAg (hg k hkw) (hx.mul (hqb k hkw)) (by omega) (by omega),rX (f:=fun j=>if j<k then g j-x*q j else g j) hkw,e2,List.set_set,mS (i:=k) (by omega)]
  exact aFs ho hne h66 hq hg hqb hx hB hw K t (k+1) fu' (by omega) (by omega)
def pst (T:Nat→Nat→Rat) (r c t i k:Nat):Rat:=if i<t∨i=r then nL T r c i k else T i k
theorem aM1 {T:Nat→Nat→Rat} {r c t:Nat}:∀i k,(gI (pst T r c t) t (nL T r c t)) i k=pst T r c (t+1) i k:=fun i k=>by
 by_cases e:i=t
 ·subst e;rw [aW];unfold pst;rw [if_pos (.inl (by omega))]
 ·rw [bY e];unfold pst
  by_cases h:i<t∨i=r
  ·rw [if_pos h,if_pos (by omega)]
  ·rw [if_neg h,if_neg (by omega)]
theorem aHf {T:Nat→Nat→Rat} {r c t:Nat} (h:t=r∨T t c=0):∀i k,pst T r c t i k=pst T r c (t+1) i k:=fun i k=>by
 unfold pst
 by_cases h1:i<t∨i=r
 ·rw [if_pos h1,if_pos (by omega)]
 ·rw [if_neg h1]
  by_cases e:i=t
  ·subst e
   have h2:T i c=0:=by rcases h with h|h;exact absurd (.inr h) h1;exact h
   rw [if_pos (.inl (by omega))]
   unfold nL
   rw [if_neg (fun e=>h1 (.inr e)),h2,Rat.zero_mul,Rat.sub_eq_add_neg,Rat.neg_zero,Rat.add_zero]
  ·rw [if_neg (by omega)]
theorem aCc {n w r c B:Nat} {a5:List (List Rat)} {od:Nat→Nat} {T:Nat→Nat→Rat} (hT:Bdx n w B T) (hr:r<n) (hc:c<w) (hor:od r=a5.length) (hB:B≤200000000) (hw:w≤100000) (hn:n≤100000) {K:Nat} (hK:w<K):∀(t i fu:Nat) (rs:List (List Rat)),i+t=n→t<fu→aAj n w rs od (pst T r c i)→∃rs',bB K (r:Int) (c:Int) a5 (mp od n) fu rs (i:Int)=some rs'∧aAj n w rs' od (nL T r c)
 |0,i,fu,rs,hk,hf,h=>by
  obtain⟨fu',rfl,_⟩:=a8 hf
  have e:i=n:=by omega
  subst e
  refine⟨rs,by simp only [bB,bF,dF (show¬(i:Int)<(i:Int) by omega),bO],h.congr fun j k hj _=>if_pos (.inl hj)⟩
 |t+1,i,fu,rs,hk,hf,h=>by
  obtain⟨fu',rfl,_⟩:=a8 hf
  have hin:i<n:=by omega
  have hrow:=h.row i hin
  by_cases e:i=r
  ·obtain⟨rs',g1,g2⟩:=aCc hT hr hc hor hB hw hn hK t (i+1) fu' rs (by omega) (by omega) (h.congr fun j k _ _=>aHf (.inl e) j k)
   refine⟨rs',?_,g2⟩
   simp only [bB,bF,dT (show(i:Int)<(n:Int) by omega),bT,dV (f:=od) hin,oB,hrow,dV (f:=pst T r c i i) hc,qT (show(i:Int)=(r:Int) by omega),mS (i:=i) (by omega)]
   exact g1
  ·have ei:pst T r c i i=T i:=by funext k;unfold pst;rw [if_neg (by omega)]
   rw [ei] at hrow
   by_cases hz:T i c=0
   ·obtain⟨rs',g1,g2⟩:=aCc hT hr hc hor hB hw hn hK t (i+1) fu' rs (by omega) (by omega) (h.congr fun j k _ _=>aHf (.inr hz) j k)
    refine⟨rs',?_,g2⟩
    simp only [bB,bF,dT (show(i:Int)<(n:Int) by omega),bT,dV (f:=od) hin,oB,hrow,dV (f:=T i) hc,qF (show(i:Int)≠(r:Int) by omega),bO,mZ (hT i c hin hc) (by omega),qT (aDh.2 hz),mS (i:=i) (by omega)]
    exact g1
   ·have hne:a5.length≠od i:=fun h2=>e (h.inj i r hin hr (by rw [←h2,hor]))
    have hq:rs.getD a5.length []=mp (yC T r c) w:=by
     rw [←hor,h.row r hr]
     exact bZ fun k _=>by unfold pst nL yC;rw [if_pos (.inr rfl),if_pos rfl]
    have h112:=aFs (h.lt i hin) hne hrow hq (fun k hk=>hT i k hin hk) (fun k hk=>aKr hT hr hc hk) (hT i c hin hc) hB hw K w 0 K (by omega) hK
    have e0:rs.set (od i) (mp (fun j=>if j<0 then T i j-T i c*yC T r c j else T i j) w)=rs:=by
     have e9:mp (fun j=>if j<0 then T i j-T i c*yC T r c j else T i j) w=rs.getD (od i) []:=by
      rw [hrow];exact bZ fun j _=>if_neg (by omega)
     rw [e9,List.getD_eq_getElem?_getD,List.getElem?_eq_getElem (h.lt i hin),Option.getD_some,List.set_getElem_self]
    rw [e0] at h112
    simp only [Int.natCast_zero] at h112
    have e1:mp (fun j=>T i j-T i c*yC T r c j) w=mp (nL T r c i) w:=bZ fun j _=>by unfold nL yC;rw [if_neg e]
    rw [e1] at h112
    obtain⟨rs',g1,g2⟩:=aCc hT hr hc hor hB hw hn hK t (i+1) fu' _ (by omega) (by omega) ((h.set hin (nL T r c i)).congr fun j k _ _=>aM1 j k)
    refine⟨rs',?_,g2⟩
    simp only [bB,bF,dT (show(i:Int)<(n:Int) by omega),bT,dV (f:=od) hin,oB,hrow,dV (f:=T i) hc,qF (show(i:Int)≠(r:Int) by omega),bO,mZ (hT i c hin hc) (by omega),qF (fun h2=>hz (aDh.1 h2)),h112,gP,mS (i:=i) (by omega)]
    exact g1
theorem aN6 {n w r c B:Nat} {rs:List (List Rat)} {od b:Nat→Nat} {T:Nat→Nat→Rat} {a2:Int} (h:aAj n w rs od T) (hT:Bdx n w B T) (hr:r<n) (hc:c<w) (hB:B≤200000000) (hw:w≤100000) (hn:n≤100000) {K:Nat} (hK:w+n<K):∃rs' od',gL K (r:Int) (c:Int) a2 (mp od n) (mp (fun i=>((b i:Nat):Int)) n) rs=some (((b r:Nat):Int),mp od' n,mp (fun i=>((gI b r c i:Nat):Int)) n,rs')∧aAj n w rs' od' (nL T r c):=by
 have hrow:=h.row r hr
 have hcp:cpL (mp (fun _=>(0:Rat)) w) (rs.getD (od r) [])=mp (T r) w:=by rw [hrow];exact aQd (by rw [bF,bF])
 have h53:=aHw hcp (fun k hk=>hT r k hr hk) (hT r c hr hc) (by omega) hw K w 0 K (by omega) (by omega)
 have e0:mp (fun j=>if j<0 then T r j/T r c else T r j) w=mp (T r) w:=bZ fun j _=>if_neg (by omega)
 rw [e0] at h53
 have h0:aAj n w (rs++[mp (yC T r c) w]) (gI od r rs.length) (pst T r c 0):=by
  refine⟨fun i hi=>?_,fun i j hi hj e=>?_,fun i hi=>?_⟩
  ·by_cases e:i=r
   ·rw [e,aW];simp
   ·rw [bY e];have:=h.lt i hi;simp;omega
  ·by_cases e1:i=r
   ·by_cases e2:j=r
    ·rw [e1,e2]
    ·rw [e1,aW,bY e2] at e;have:=h.lt j hj;omega
   ·by_cases e2:j=r
    ·rw [e2,aW,bY e1] at e;have:=h.lt i hi;omega
    ·rw [bY e1,bY e2] at e;exact h.inj i j hi hj e
  ·by_cases e:i=r
   ·rw [e,aW,List.getD_eq_getElem?_getD,List.getElem?_append_right (Nat.le_refl _),Nat.sub_self]
    show mp (yC T r c) w=_
    exact bZ fun k _=>by unfold pst nL yC;rw [if_pos (.inr rfl),if_pos rfl]
   ·have hl:=h.lt i hi
    rw [bY e,List.getD_eq_getElem?_getD,List.getElem?_append_left hl,←List.getD_eq_getElem?_getD,h.row i hi]
    exact bZ fun k _=>by unfold pst;rw [if_neg (by omega)]
 obtain⟨rs',g1,g2⟩:=aCc (a5:=rs) hT hr hc aW hB hw hn (K:=K) (by omega) n 0 K _ (by omega) (by omega) h0
 simp only [Int.natCast_zero] at h53 g1
 have e3:mp (fun j=>T r j/T r c) w=mp (yC T r c) w:=rfl
 rw [e3] at h53
 have e4:mp (gI (fun i=>((b i:Nat):Int)) r (c:Int)) n=mp (fun i=>((gI b r c i:Nat):Int)) n:=bZ fun i _=>by
  by_cases e:i=r
  ·rw [e,aW,aW]
  ·rw [bY e,bY e]
 refine⟨rs',gI od r rs.length,?_,g2⟩
 simp only [gL,dV (f:=od) hr,oB,hrow,bF,aBx (z:=(0:Rat)) (n:=w) (by omega)]
 rw [←hrow,hcp]
 simp only [dV (f:=T r) hc,oB,h53,gS,dV (f:=od) hr,rX (f:=od) hr,g1,gR,dV (f:=fun i=>((b i:Nat):Int)) hr,rX (f:=fun i=>((b i:Nat):Int)) hr,e4]
end Go.Proofs.YtcjdedkdoagifaaGreat
set_option linter.unusedVariables false
namespace Go.Proofs.YtcjdedkdoagifaaGreat
def enc (s:Option Nat):Int:=match s with|none=>-1|some r=>(r:Int)
def sel (T:Nat→Nat→Rat) (n c:Nat):Nat→Nat→Option Nat→Option Nat
 |0,_,s=>s
 |t+1,i,s=>bif decide (0<(T i c).num.sign) then(match s with
  |none=>sel T n c t (i+1) (some i)
  |some r=>bif les T n i (T i c) r (T r c) then sel T n c t (i+1) (some i) else sel T n c t (i+1) (some r)) else sel T n c t (i+1) s
theorem xV {T:Nat→Nat→Rat} {n c:Nat}:∀t i s r,(∀q,s=some q→q<i∧0<(T q c).num.sign)→sel T n c t i s=some r→r<i+t∧0<(T r c).num.sign
 |0,i,s,r,h,e=>by have:=h r e;exact⟨by omega,this.2⟩
 |t+1,i,s,r,h,e=>by
  unfold sel at e
  by_cases hp:0<(T i c).num.sign
  ·rw [decide_eq_true hp,bT] at e
   have hi:∀q,some i=some q→q<i+1∧0<(T q c).num.sign:=fun q hq=>by cases hq;exact⟨by omega,hp⟩
   cases s with
   |none=>have:=xV t (i+1) (some i) r hi e;exact⟨by omega,this.2⟩
   |some p=>
    have hs:∀q,some p=some q→q<i+1∧0<(T q c).num.sign:=fun q hq=>by have:=h q hq;exact⟨by omega,this.2⟩
    simp only at e
    cases hl:les T n i (T i c) p (T p c)
    ·rw [hl,bO] at e;have:=xV t (i+1) (some p) r hs e;exact⟨by omega,this.2⟩
    ·rw [hl,bT] at e;have:=xV t (i+1) (some i) r hi e;exact⟨by omega,this.2⟩
  ·rw [decide_eq_false hp,bO] at e
   have:=xV t (i+1) s r (fun q hq=>by have:=h q hq;exact⟨by omega,this.2⟩) e
   exact⟨by omega,this.2⟩
theorem aFK {n c B:Nat} {rs:List (List Rat)} {od:Nat→Nat} {T:Nat→Nat→Rat} {v6:Int×(List Nat)×(List Int)×(List (List Rat))} {x:Int} {bs:List Int} (h6:v6.1=(n:Int)) (h:aAj n (2*n+2) rs od T) (hT:Bdx n (2*n+2) B T) (hc:c<2*n+2) (hB:B≤200000000) (hn:n≤1000) {K:Nat} (hK:2000≤K):∀(t i fu:Nat) (s:Option Nat),i+t=n→t<fu→(∀q,s=some q→q<i)→dI K v6 (x,mp od n,bs,rs) (c:Int) fu (enc s) (i:Int)=some (enc (sel T n c t i s))
 |0,i,fu,s,hi,hf,hs=>by
  obtain⟨fu',rfl,_⟩:=a8 hf
  simp only [dI,bF,dF (show¬(i:Int)<(n:Int) by omega),bO,sel]
 |t+1,i,fu,s,hi,hf,hs=>by
  obtain⟨fu',rfl,_⟩:=a8 hf
  have hin:i<n:=by omega
  have hb:=hT i c hin hc
  have ih:=fun s hs=>aFK (x:=x) (bs:=bs) h6 h hT hc hB hn hK t (i+1) fu' s (by omega) (by omega) hs
  simp only [dI,bF,dT (show(i:Int)<(n:Int) by omega),bT,dV (f:=od) hin,oB,h.row i hin,dV (f:=T i) hc,mZ hb (by omega),sel]
  by_cases hp:0<(T i c).num.sign
  ·simp only [dT hp,bT]
   cases s with
   |none=>
    simp only [enc,dT (show(-1:Int)<0 by omega),bT,mS (i:=i) (by omega),oB]
    exact ih (some i) (fun q hq=>by cases hq;omega)
   |some p=>
    have hpn:p<n:=by have:=hs p rfl;omega
    have hl:=aG8 (a6:=bs) h hT hin hpn hb (hT p c hpn hc) (by omega) hn hK
    simp only [enc,dF (show¬(p:Int)<0 by omega),bO,dV (f:=od) hpn,h.row p hpn,dV (f:=T p) hc,oB,h6,hl]
    cases les T n i (T i c) p (T p c)
    ·simp only [bO,mS (i:=i) (by omega),oB]
     exact ih (some p) (fun q hq=>by have:=hs q hq;omega)
    ·simp only [bT,mS (i:=i) (by omega),oB]
     exact ih (some i) (fun q hq=>by cases hq;omega)
  ·simp only [dF hp,bO,mS (i:=i) (by omega),oB]
   exact ih s (fun q hq=>by have:=hs q hq;omega)
theorem aFE {n c B:Nat} {T:Nat→Nat→Rat} {a1:List Rat} (h1:a1.length=n) (hT:Bdx n (2*n+2) B T) (hc:c<2*n+2) (hB:B≤200000000) (hn:n≤1000) {K:Nat} (hK:2000≤K):∀(t i fu:Nat) (s:Option Nat),i+t=n→t<fu→(∀q,s=some q→q<i)→eI K a1 (mx T n (2*n+2)) (c:Int) fu (enc s) (i:Int)=some (enc (sel T n c t i s))
 |0,i,fu,s,hi,hf,hs=>by
  obtain⟨fu',rfl,_⟩:=a8 hf
  simp only [eI,h1,dF (show¬(i:Int)<(n:Int) by omega),bO,sel]
 |t+1,i,fu,s,hi,hf,hs=>by
  obtain⟨fu',rfl,_⟩:=a8 hf
  have hin:i<n:=by omega
  have hb:=hT i c hin hc
  have ih:=fun s hs=>aFE h1 hT hc hB hn hK t (i+1) fu' s (by omega) (by omega) hs
  simp only [eI,h1,dT (show(i:Int)<(n:Int) by omega),bT,aBL (g:=T) (w:=2*n+2) hin,oB,dV (f:=T i) hc,mZ hb (by omega),sel]
  by_cases hp:0<(T i c).num.sign
  ·simp only [dT hp,dF (show¬(T i c).num.sign≤0 by omega),bT,bO]
   cases s with
   |none=>
    simp only [enc,dT (show(-1:Int)<0 by omega),bT,mS (i:=i) (by omega),oB]
    exact ih (some i) (fun q hq=>by cases hq;omega)
   |some p=>
    have hpn:p<n:=by have:=hs p rfl;omega
    have hbp:=hT p c hpn hc
    have hl:=aFz hT hin hpn hb hbp (by omega) hn hK
    simp only [enc,dF (show¬(p:Int)<0 by omega),bO,aGn hT hin hb (by omega) (by omega) hn hK,aBL (g:=T) (w:=2*n+2) hpn,dV (f:=T p) hc,oB,aGn hT hpn hbp (by omega) (by omega) hn hK,hl]
    cases les T n i (T i c) p (T p c)
    ·simp only [bO,mS (i:=i) (by omega),oB]
     exact ih (some p) (fun q hq=>by have:=hs q hq;omega)
    ·simp only [bT,mS (i:=i) (by omega),oB]
     exact ih (some i) (fun q hq=>by cases hq;omega)
  ·simp only [dF hp,dT (show(T i c).num.sign≤0 by omega),bT,bO,mS (i:=i) (by omega),oB]
   exact ih s (fun q hq=>by have:=hs q hq;omega)
def swv (T:Nat→Nat→Rat) (b:Nat→Nat) (n:Nat):Nat→Nat→Rat
 |0=>z0
 |i+1=>if b i<n then gI (swv T b n i) (b i) (T i (2*n+1)) else swv T b n i
def szv (T:Nat→Nat→Rat) (b:Nat→Nat) (n:Nat):Nat→Nat→Rat
 |0=>z0
 |i+1=>if b i<n then szv T b n i else if b i<2*n then gI (szv T b n i) (b i-n) (T i (2*n+1)) else szv T b n i
theorem aGS {n:Nat} {rs:List (List Rat)} {od b:Nat→Nat} {T:Nat→Nat→Rat} (h:aAj n (2*n+2) rs od T) (hn:n≤1000) (K:Nat):∀(t i fu:Nat),i+t=n→t<fu→bL K (n:Int) (mp od n) (mp (fun i=>((b i:Nat):Int)) n) rs fu (mp (swv T b n i) n) (mp (szv T b n i) n) (i:Int)=some (mp (swv T b n n) n,mp (szv T b n n) n)
 |0,i,fu,hi,hf=>by
  obtain⟨fu',rfl,_⟩:=a8 hf
  have e:i=n:=by omega
  subst e
  simp only [bL,bF,dF (show¬(i:Int)<(i:Int) by omega),bO]
 |t+1,i,fu,hi,hf=>by
  obtain⟨fu',rfl,_⟩:=a8 hf
  have hin:i<n:=by omega
  have ih:=aGS (b:=b) h hn K t (i+1) fu' (by omega) (by omega)
  have c1:aP (2*(n:Int))=some (2*(n:Int)):=kM (by omega)
  have c2:aP (2*(n:Int)+1)=some ((2*n+1:Nat):Int):=by rw [kM (by omega)];congr 1
  simp only [bL,bF,dT (show(i:Int)<(n:Int) by omega),bT,dV (f:=fun i=>((b i:Nat):Int)) hin,dV (f:=od) hin,oB,c1,c2,h.row i hin,dV (f:=T i) (n:=2*n+2) (i:=2*n+1) (by omega)]
  by_cases h1:b i<n
  ·have e1:swv T b n (i+1)=gI (swv T b n i) (b i) (T i (2*n+1)):=if_pos h1
   have e2:szv T b n (i+1)=szv T b n i:=if_pos h1
   rw [e1,e2] at ih
   simp only [dT (show((b i:Nat):Int)<(n:Int) by omega),bT,dV (f:=swv T b n i) h1,rX (f:=swv T b n i) h1,oB,mS (i:=i) (by omega)]
   exact ih
  ·have e1:swv T b n (i+1)=swv T b n i:=if_neg h1
   by_cases h2:b i<2*n
   ·have e2:szv T b n (i+1)=gI (szv T b n i) (b i-n) (T i (2*n+1)):=by
     show(if b i<n then _ else _)=_
     rw [if_neg h1,if_pos h2]
    have c3:aP (((b i:Nat):Int)-(n:Int))=some ((b i-n:Nat):Int):=by rw [show((b i:Nat):Int)-(n:Int)=((b i-n:Nat):Int) by omega,kM (by omega)]
    rw [e1,e2] at ih
    simp only [dF (show¬((b i:Nat):Int)<(n:Int) by omega),bO,dT (show((b i:Nat):Int)<2*(n:Int) by omega),bT,c3,oB,dV (f:=szv T b n i) (n:=n) (i:=b i-n) (by omega),rX (f:=szv T b n i) (n:=n) (i:=b i-n) (by omega),mS (i:=i) (by omega)]
    exact ih
   ·have e2:szv T b n (i+1)=szv T b n i:=by
     show(if b i<n then _ else _)=_
     rw [if_neg h1,if_neg h2]
    rw [e1,e2] at ih
    simp only [dF (show¬((b i:Nat):Int)<(n:Int) by omega),bO,dF (show¬((b i:Nat):Int)<2*(n:Int) by omega),mS (i:=i) (by omega),oB]
    exact ih
theorem aKd {n:Nat} {rs:List (List Rat)} {od b:Nat→Nat} {T:Nat→Nat→Rat} (h:aAj n (2*n+2) rs od T) (hn:n≤1000) {K:Nat} (hK:2000≤K):eM K (n:Int) (mp od n) (mp (fun i=>((b i:Nat):Int)) n) rs=some ⟨mp (szv T b n n) n,mp (swv T b n n) n,0⟩:=by
 have:=aGS (b:=b) h hn K n 0 K (by omega) (by omega)
 simp only [Int.natCast_zero] at this
 have e:mp (fun _=>(0:Rat)) n=mp (swv T b n 0) n:=rfl
 have e2:mp (swv T b n 0) n=mp (szv T b n 0) n:=rfl
 simp only [eM,aBx (z:=(0:Rat)) (n:=n) (by omega),oB,e]
 rw [show bL K (n:Int) (mp od n) (mp (fun i=>((b i:Nat):Int)) n) rs K (mp (swv T b n 0) n) (mp (swv T b n 0) n) 0=_ from this]
 rfl
theorem aFp {n:Nat} {b:Nat→Nat} {T:Nat→Nat→Rat} {a1:List Rat} (h1:a1.length=n) (hb:∀i,i<n→b i<2*n) (hn:n≤1000) (K:Nat):∀(t i fu:Nat),i+t=n→t<fu→fQ K a1 (mx T n (2*n+2)) (mp (fun i=>((b i:Nat):Int)) n) fu (mp (swv T b n i) n) (mp (szv T b n i) n) (i:Int)=some (mp (swv T b n n) n,mp (szv T b n n) n)
 |0,i,fu,hi,hf=>by
  obtain⟨fu',rfl,_⟩:=a8 hf
  have e:i=n:=by omega
  subst e
  simp only [fQ,h1,dF (show¬(i:Int)<(i:Int) by omega),bO]
 |t+1,i,fu,hi,hf=>by
  obtain⟨fu',rfl,_⟩:=a8 hf
  have hin:i<n:=by omega
  have ih:=aFp (T:=T) h1 hb hn K t (i+1) fu' (by omega) (by omega)
  have c1:aP (2*(n:Int))=some (2*(n:Int)):=kM (by omega)
  have c2:aP (2*(n:Int)+1)=some ((2*n+1:Nat):Int):=by rw [kM (by omega)];congr 1
  have h2:=hb i hin
  simp only [fQ,h1,dT (show(i:Int)<(n:Int) by omega),bT,dV (f:=fun i=>((b i:Nat):Int)) hin,oB]
  by_cases h3:b i<n
  ·have e1:swv T b n (i+1)=gI (swv T b n i) (b i) (T i (2*n+1)):=if_pos h3
   have e2:szv T b n (i+1)=szv T b n i:=if_pos h3
   rw [e1,e2] at ih
   simp only [dT (show((b i:Nat):Int)<(n:Int) by omega),bT,aBL (g:=T) (w:=2*n+2) hin,c1,c2,oB,dV (f:=T i) (n:=2*n+2) (i:=2*n+1) (by omega),dV (f:=swv T b n i) h3,rX (f:=swv T b n i) h3,mS (i:=i) (by omega)]
   exact ih
  ·have e1:swv T b n (i+1)=swv T b n i:=if_neg h3
   have e2:szv T b n (i+1)=gI (szv T b n i) (b i-n) (T i (2*n+1)):=by
    show(if b i<n then _ else _)=_
    rw [if_neg h3,if_pos h2]
   have c3:aP (((b i:Nat):Int)-(n:Int))=some ((b i-n:Nat):Int):=by rw [show((b i:Nat):Int)-(n:Int)=((b i-n:Nat):Int) by omega,kM (by omega)]
   rw [e1,e2] at ih
   simp only [dF (show¬((b i:Nat):Int)<(n:Int) by omega),bO,c3,aBL (g:=T) (w:=2*n+2) hin,c1,c2,oB,dV (f:=T i) (n:=2*n+2) (i:=2*n+1) (by omega),dV (f:=szv T b n i) (n:=n) (i:=b i-n) (by omega),rX (f:=szv T b n i) (n:=n) (i:=b i-n) (by omega),mS (i:=i) (by omega)]
   exact ih
end Go.Proofs.YtcjdedkdoagifaaGreat
set_option linter.unusedVariables false
namespace Go.Proofs.YtcjdedkdoagifaaGreat
/-- The run from a tableau on. -/
def lem (n most:Nat):Nat→(Nat→Nat→Rat)→(Nat→Nat)→Nat→Nat→Nat→aO×Int
 |0,_,_,_,_,_=>(⟨[],[],0⟩,16)
 |f+1,T,b,r,c,cnt=>
  if cnt=most then(⟨[],[],0⟩,16)
  else if b r=2*n then(⟨mp (szv (nL T r c) (gI b r c) n n) n,mp (swv (nL T r c) (gI b r c) n n) n,((cnt+1:Nat):Int)⟩,0)
  else match sel (nL T r c) n (if b r<n then b r+n else b r-n) n 0 none with
   |none=>(⟨[],[],0⟩,15)
   |some r'=>lem n most f (nL T r c) (gI b r c) r' (if b r<n then b r+n else b r-n) (cnt+1)
structure LI (n:Nat) (Z T:Nat→Nat→Rat) (b:Nat→Nat) (r c:Nat):Prop where
 ti:TI n (2*n+2) Z T b
 hr:r<n
 hc:c≤2*n
 hp:T r c≠0
 hb:∀j,j<n→b j≤2*n
 fst:c=2*n→b r≠2*n
theorem TI.inj {n w:Nat} {Z T:Nat→Nat→Rat} {b:Nat→Nat} (h:TI n w Z T b) {i j:Nat} (hi:i<n) (hj:j<n) (e:b i=b j):i=j:=by
 by_cases h1:i=j
 ·exact h1
 ·have a:=h.un i i hi hi
  have c:=h.un i j hi hj
  rw [if_pos rfl,e] at a
  rw [if_neg h1,a] at c
  exact absurd c (by decide)
theorem aIq {n x:Nat} (hx:x≤2*n) (hne:x≠2*n):(if x<n then x+n else x-n)<2*n:=by split<;>omega
theorem LI.next {n:Nat} {Z T:Nat→Nat→Rat} {b:Nat→Nat} {r c r':Nat} (h:LI n Z T b r c) (hne:b r≠2*n) (hs:sel (nL T r c) n (if b r<n then b r+n else b r-n) n 0 none=some r'):LI n Z (nL T r c) (gI b r c) r' (if b r<n then b r+n else b r-n):=by
 have hlt:=aIq (h.hb r h.hr) hne
 obtain⟨s1,s2⟩:=xV n 0 none r' (fun q hq=>by cases hq) hs
 refine⟨h.ti.pivot h.hr (by have:=h.hc;omega) h.hp,by omega,by omega,fun e=>?_,fun j hj=>?_,fun e=>by omega⟩
 ·rw [e] at s2;exact absurd s2 (by decide)
 ·by_cases e:j=r
  ·rw [e,aW];exact h.hc
  ·rw [bY e];exact h.hb j hj
def Sm (n B:Nat) (Z:Nat→Nat→Rat):Prop:=∀T b,TI n (2*n+2) Z T b→Bdx n (2*n+2) B T
theorem aR0 {n most B:Nat} {Z:Nat→Nat→Rat} {v6:Int×(List Nat)×(List Int)×(List (List Rat))} (h6:v6.1=(n:Int)) (hZ:Sm n B Z) (hB:B≤200000000) (hn:n≤1000) (hm:most≤100000) {K:Nat} (hK:5000≤K):∀(f cnt fu:Nat) (rs:List (List Rat)) (od:Nat→Nat) (T:Nat→Nat→Rat) (b:Nat→Nat) (r c:Nat),cnt+f=most+1→0<f→f≤fu→aAj n (2*n+2) rs od T→LI n Z T b r c→
  dE K (most:Int) v6 fu (mp od n) (mp (fun i=>((b i:Nat):Int)) n) rs (r:Int) (c:Int) (cnt:Int)=some (.ret (lem n most f T b r c cnt))
 |0,cnt,fu,rs,od,T,b,r,c,hc,h0,hf,hR,h=>by omega
 |f+1,cnt,fu,rs,od,T,b,r,c,hc,h0,hf,hR,h=>by
  obtain⟨fu',rfl,hf'⟩:=a8 (show f<fu by omega)
  unfold lem
  by_cases e:cnt=most
  ·rw [if_pos e]
   simp only [dE,qT (show(cnt:Int)=(most:Int) by omega),bT]
  ·rw [if_neg e]
   have hcw:=h.hc
   have hT:=hZ T b h.ti
   have ti':=h.ti.pivot h.hr (show c<2*n+2 by omega) h.hp
   have hT':=hZ _ _ ti'
   obtain⟨rs',od',p1,p2⟩:=aN6 (b:=b) (a2:=v6.1) hR hT h.hr (show c<2*n+2 by omega) hB (by omega) (by omega) (K:=K) (by omega)
   have hbr:=h.hb r h.hr
   have c1:aP (2*(n:Int))=some (2*(n:Int)):=kM (by omega)
   rw [h6] at p1
   simp only [dE,qF (show(cnt:Int)≠(most:Int) by omega),bO,h6,p1,oB,c1]
   by_cases e2:b r=2*n
   ·rw [if_pos e2]
    simp only [qT (show((b r:Nat):Int)=2*(n:Int) by omega),bT,aKd (b:=gI b r c) p2 hn (show 2000≤K by omega),oB,mS (i:=cnt) (by omega)]
   ·rw [if_neg e2]
    have hlt:=aIq hbr e2
    have c2:aP (((b r:Nat):Int)+(n:Int))=some ((b r+n:Nat):Int):=by rw [kM (by omega)];rfl
    have hsel:=aFK (v6:=v6) (x:=((b r:Nat):Int)) (bs:=mp (fun i=>((gI b r c i:Nat):Int)) n) h6 p2 hT' (show(if b r<n then b r+n else b r-n)<2*n+2 by omega) hB hn (show 2000≤K by omega) n 0 K none (by omega) (by omega) (fun q hq=>by cases hq)
    simp only [Int.natCast_zero,show enc none=(-1:Int) from rfl] at hsel
    have key:iE K v6 (cnt:Int) (((b r:Nat):Int),mp od' n,mp (fun i=>((gI b r c i:Nat):Int)) n,rs') (dE K (most:Int) v6 fu') (((if b r<n then b r+n else b r-n:Nat)):Int)=some (.ret (match sel (nL T r c) n (if b r<n then b r+n else b r-n) n 0 none with|none=>(⟨[],[],0⟩,15)|some r'=>lem n most f (nL T r c) (gI b r c) r' (if b r<n then b r+n else b r-n) (cnt+1))):=by
     simp only [iE,hsel,oB,m5]
     cases hs:sel (nL T r c) n (if b r<n then b r+n else b r-n) n 0 none with
     |none=>rfl
     |some r'=>
      simp only [enc,dF (show¬(r':Int)<0 by omega),bO,mS (i:=cnt) (by omega),oB]
      exact aR0 h6 hZ hB hn hm hK f (cnt+1) fu' rs' od' _ _ r' _ (by omega) (by omega) (by omega) p2 (h.next e2 hs)
    simp only [qF (show((b r:Nat):Int)≠2*(n:Int) by omega),bO,c2,oB]
    by_cases h3:b r<n
    ·rw [if_pos h3] at key
     simp only [dF (show¬(n:Int)≤((b r:Nat):Int) by omega),bO,if_pos h3]
     exact key
    ·rw [if_neg h3] at key
     have c3:aP (((b r:Nat):Int)-(n:Int))=some ((b r-n:Nat):Int):=by rw [show((b r:Nat):Int)-(n:Int)=((b r-n:Nat):Int) by omega,kM (by omega)]
     simp only [dT (show(n:Int)≤((b r:Nat):Int) by omega),bT,c3,oB,if_neg h3]
     exact key
theorem aSD {n most B:Nat} {Z:Nat→Nat→Rat} {a1:List Rat} (h1:a1.length=n) (hZ:Sm n B Z) (hB:B≤200000000) (hn:n≤1000) (hm:most≤100000) {K:Nat} (hK:5000≤K):∀(f cnt fu:Nat) (T:Nat→Nat→Rat) (b:Nat→Nat) (r c:Nat),cnt+f=most+1→0<f→f≤fu→LI n Z T b r c→
  kU K a1 (most:Int) fu (mp (fun i=>((b i:Nat):Int)) n) (mx T n (2*n+2)) (r:Int) (c:Int) (cnt:Int)=some (.ret (lem n most f T b r c cnt))
 |0,cnt,fu,T,b,r,c,hc,h0,hf,h=>by omega
 |f+1,cnt,fu,T,b,r,c,hc,h0,hf,h=>by
  obtain⟨fu',rfl,hf'⟩:=a8 (show f<fu by omega)
  unfold lem
  by_cases e:cnt=most
  ·rw [if_pos e]
   simp only [kU,qT (show(cnt:Int)=(most:Int) by omega),bT]
  ·rw [if_neg e]
   have hcw:=h.hc
   have hr:=h.hr
   have hT:=hZ T b h.ti
   have ti':=h.ti.pivot h.hr (show c<2*n+2 by omega) h.hp
   have hT':=hZ _ _ ti'
   have p1:=aNW hT h.hr (show c<2*n+2 by omega) hB (by omega) (by omega) (K:=K) (by omega)
   have hbr:=h.hb r h.hr
   have c1:aP (2*(n:Int))=some (2*(n:Int)):=kM (by omega)
   have e4:mp (gI (fun i=>((b i:Nat):Int)) r (c:Int)) n=mp (fun i=>((gI b r c i:Nat):Int)) n:=bZ fun i _=>by
    by_cases e:i=r
    ·rw [e,aW,aW]
    ·rw [bY e,bY e]
   simp only [kU,qF (show(cnt:Int)≠(most:Int) by omega),bO,p1,oB,mS (i:=cnt) (by omega),dV (f:=fun i=>((b i:Nat):Int)) hr,rX (f:=fun i=>((b i:Nat):Int)) hr,e4,h1,c1]
   by_cases e2:b r=2*n
   ·rw [if_pos e2]
    have hb2:∀i,i<n→gI b r c i<2*n:=fun i hi=>by
     by_cases ei:i=r
     ·rw [ei,aW]
      have:=h.fst
      by_cases ec:c=2*n
      ·exact absurd e2 (this ec)
      ·omega
     ·rw [bY ei]
      have h5:=h.hb i hi
      by_cases e6:b i=2*n
      ·exact absurd (h.ti.inj hi hr (by rw [e6,e2])) ei
      ·omega
    have hs:=aFp (T:=nL T r c) h1 hb2 hn K n 0 K (by omega) (by omega)
    simp only [Int.natCast_zero] at hs
    have z1:mp (fun _=>(0:Rat)) n=mp (swv (nL T r c) (gI b r c) n 0) n:=rfl
    have hs':fQ K a1 (mx (nL T r c) n (2*n+2)) (mp (fun i=>((gI b r c i:Nat):Int)) n) K (mp (fun _=>(0:Rat)) n) (mp (fun _=>(0:Rat)) n) 0=some (mp (swv (nL T r c) (gI b r c) n n) n,mp (szv (nL T r c) (gI b r c) n n) n):=hs
    simp only [qT (show((b r:Nat):Int)=2*(n:Int) by omega),bT,aBx (z:=(0:Rat)) (n:=n) (by omega),oB,hs',t5]
   ·rw [if_neg e2]
    have hlt:=aIq hbr e2
    have c2:aP (((b r:Nat):Int)+(n:Int))=some ((b r+n:Nat):Int):=by rw [kM (by omega)];rfl
    have c3:wH ((b r+n:Nat):Int) (2*(n:Int))=some (((if b r<n then b r+n else b r-n:Nat)):Int):=by
     rw [mW (by omega) (by omega)]
     congr 1
     by_cases h3:b r<n
     ·rw [if_pos h3,Int.emod_eq_of_lt (by omega) (by omega)]
     ·rw [if_neg h3,show((b r+n:Nat):Int)=((b r-n:Nat):Int)+2*(n:Int) by omega,Int.add_emod_right,Int.emod_eq_of_lt (by omega) (by omega)]
    have hsel:=aFE h1 hT' (show(if b r<n then b r+n else b r-n)<2*n+2 by omega) hB hn (show 2000≤K by omega) n 0 K none (by omega) (by omega) (fun q hq=>by cases hq)
    simp only [Int.natCast_zero,show enc none=(-1:Int) from rfl] at hsel
    simp only [qF (show((b r:Nat):Int)≠2*(n:Int) by omega),bO,c2,oB,c3,hsel,t7]
    cases hs:sel (nL T r c) n (if b r<n then b r+n else b r-n) n 0 none with
    |none=>rfl
    |some r'=>
     simp only [enc,dF (show¬(r':Int)<0 by omega),bO]
     exact aSD h1 hZ hB hn hm hK f (cnt+1) fu' _ _ r' _ (by omega) (by omega) (by omega) (h.next e2 hs)
end Go.Proofs.YtcjdedkdoagifaaGreat
set_option linter.unusedVariables false
namespace Go.Proofs.YtcjdedkdoagifaaGreat
theorem aHH {l:List Rat} {B:Nat} (hl:vQ B l) (hB:B≤1073741824) (hn:l.length≤1000) (K:Nat):∀(t i k:Nat),i+t=l.length→t<k→iM K l k (i:Int)=some (.go ())
 |0,i,k,hi,hk=>by
  obtain⟨k',rfl,_⟩:=a8 hk
  simp only [iM,dF (show¬(i:Int)<(l.length:Int) by omega),bO]
 |t+1,i,k,hi,hk=>by
  obtain⟨k',rfl,_⟩:=a8 hk
  simp only [iM,dT (show(i:Int)<(l.length:Int) by omega),bT,aHy (l:=l) (i:=i) (by omega),oB,wL (hl _ (wI (l:=l) (i:=i) (by omega))) hB,Bool.not_true,bO,mS (i:=i) (by omega)]
  exact aHH hl hB hn K t (i+1) k' (by omega) (by omega)
theorem aHE {l:List Rat} {B:Nat} (hl:vQ B l) (hB:B≤1073741824) (hn:l.length≤1000) {K:Nat} (hK:l.length<K):nE K l=some true:=by
 have:=aHH hl hB hn K l.length 0 K (by omega) hK
 simp only [Int.natCast_zero] at this
 simp only [nE,this,oB,o7]
theorem aE5 {l:List Rat} {B:Nat} (hl:vQ B l) (hB:B≤1073741824) (hn:l.length≤1000) (K:Nat):∀(t i k:Nat),i+t=l.length→t<k→l8 K l k (i:Int)=some (.go ())
 |0,i,k,hi,hk=>by
  obtain⟨k',rfl,_⟩:=a8 hk
  simp only [l8,dF (show¬(i:Int)<(l.length:Int) by omega),bO]
 |t+1,i,k,hi,hk=>by
  obtain⟨k',rfl,_⟩:=a8 hk
  simp only [l8,dT (show(i:Int)<(l.length:Int) by omega),bT,aHy (l:=l) (i:=i) (by omega),oB,wL (hl _ (wI (l:=l) (i:=i) (by omega))) hB,Bool.not_true,bO,mS (i:=i) (by omega)]
  exact aE5 hl hB hn K t (i+1) k' (by omega) (by omega)
theorem aFg {l:List Rat} {B:Nat} (hl:vQ B l) (hB:B≤1073741824) (hn:l.length≤1000) {K:Nat} (hK:l.length<K):qV K l=some true:=by
 have:=aE5 hl hB hn K l.length 0 K (by omega) hK
 simp only [Int.natCast_zero] at this
 simp only [qV,this,oB,vS]
theorem aFi {M:Nat→Nat→Rat} {q:Nat→Rat} {n B:Nat} (hM:Bdx n n B M) (hB:B≤1073741824) (hn:n≤32) {K:Nat} (hK:100≤K):∀(t i k:Nat),i+t=n→t<k→gY K (mx M n n) (mp q n) k (i:Int)=some (.go ())
 |0,i,k,hi,hk=>by
  obtain⟨k',rfl,_⟩:=a8 hk
  simp only [gY,uJ,dF (show¬(i:Int)<(n:Int) by omega),bO]
 |t+1,i,k,hi,hk=>by
  obtain⟨k',rfl,_⟩:=a8 hk
  have hin:i<n:=by omega
  have g:=aHE (l:=mp (M i) n) (aAR fun c hc=>hM i c hin hc) hB (by rw [bF];omega) (K:=K) (by rw [bF];omega)
  simp only [gY,uJ,dT (show(i:Int)<(n:Int) by omega),bT,aBL (g:=M) (w:=n) hin,oB,bF,nF (rfl:(n:Int)=(n:Int)),bO,g,Bool.not_true,mS (i:=i) (by omega)]
  exact aFi hM hB hn hK t (i+1) k' (by omega) (by omega)
theorem aFk {M:Nat→Nat→Rat} {q:Nat→Rat} {n B:Nat} (hM:Bdx n n B M) (hq:∀i,i<n→Bd B (q i)) (hB:B≤1073741824) (hn:n≤32) {K:Nat} (hK:100≤K):oJ K (mx M n n) (mp q n)=some true:=by
 have g:=aHE (l:=mp q n) (aAR hq) hB (by rw [bF];omega) (K:=K) (by rw [bF];omega)
 have e:=aFi (q:=q) hM hB hn hK n 0 K (by omega) (by omega)
 simp only [Int.natCast_zero] at e
 simp only [oJ,uJ,bF,nF (rfl:(n:Int)=(n:Int)),bO,dF (show¬(32:Int)<(n:Int) by omega),g,oB,Bool.not_true,e,oP]
theorem aEb {M:Nat→Nat→Rat} {q:Nat→Rat} {n B:Nat} (hM:Bdx n n B M) (hB:B≤1073741824) (hn:n≤32) {K:Nat} (hK:100≤K):∀(t i k:Nat),i+t=n→t<k→lH K (mx M n n) (mp q n) k (i:Int)=some (.go ())
 |0,i,k,hi,hk=>by
  obtain⟨k',rfl,_⟩:=a8 hk
  simp only [lH,uJ,dF (show¬(i:Int)<(n:Int) by omega),bO]
 |t+1,i,k,hi,hk=>by
  obtain⟨k',rfl,_⟩:=a8 hk
  have hin:i<n:=by omega
  have g:=aFg (l:=mp (M i) n) (aAR fun c hc=>hM i c hin hc) hB (by rw [bF];omega) (K:=K) (by rw [bF];omega)
  simp only [lH,uJ,dT (show(i:Int)<(n:Int) by omega),bT,aBL (g:=M) (w:=n) hin,oB,bF,nF (rfl:(n:Int)=(n:Int)),bO,g,Bool.not_true,mS (i:=i) (by omega)]
  exact aEb hM hB hn hK t (i+1) k' (by omega) (by omega)
theorem aD1 {M:Nat→Nat→Rat} {q:Nat→Rat} {n B:Nat} (hM:Bdx n n B M) (hq:∀i,i<n→Bd B (q i)) (hB:B≤1073741824) (hn:n≤32) {K:Nat} (hK:100≤K):tK K (mx M n n) (mp q n)=some true:=by
 have g:=aFg (l:=mp q n) (aAR hq) hB (by rw [bF];omega) (K:=K) (by rw [bF];omega)
 have e:=aEb (q:=q) hM hB hn hK n 0 K (by omega) (by omega)
 simp only [Int.natCast_zero] at e
 simp only [tK,uJ,bF,nF (rfl:(n:Int)=(n:Int)),bO,dF (show¬(32:Int)<(n:Int) by omega),g,oB,Bool.not_true,e,vL]
def ng (q:Nat→Rat):Nat→Nat→Bool
 |0,_=>false
 |t+1,i=>bif decide ((q i).num.sign<0) then true else ng q t (i+1)
theorem aMo {q:Nat→Rat} {n B:Nat} (hq:∀i,i<n→Bd B (q i)) (hB:B≤1073741824) (hn:n≤1000) (K:Nat):∀(t i k:Nat),i+t=n→t<k→fS K (mp q n) k (i:Int)=some (bif ng q t i then .ret true else .go ())
 |0,i,k,hi,hk=>by
  obtain⟨k',rfl,_⟩:=a8 hk
  simp only [fS,bF,dF (show¬(i:Int)<(n:Int) by omega),bO,ng]
 |t+1,i,k,hi,hk=>by
  obtain⟨k',rfl,_⟩:=a8 hk
  have hin:i<n:=by omega
  simp only [fS,bF,dT (show(i:Int)<(n:Int) by omega),bT,dV (f:=q) hin,oB,mZ (hq i hin) hB,ng]
  by_cases h:(q i).num.sign<0
  ·simp only [dT h,bT]
  ·simp only [dF h,bO,mS (i:=i) (by omega),oB]
   exact aMo hq hB hn K t (i+1) k' (by omega) (by omega)
theorem aJv {q:Nat→Rat} {n B:Nat} (hq:∀i,i<n→Bd B (q i)) (hB:B≤1073741824) (hn:n≤1000) (K:Nat):∀(t i k:Nat),i+t=n→t<k→jE K (mp q n) k (i:Int)=some (bif ng q t i then .ret true else .go ())
 |0,i,k,hi,hk=>by
  obtain⟨k',rfl,_⟩:=a8 hk
  simp only [jE,bF,dF (show¬(i:Int)<(n:Int) by omega),bO,ng]
 |t+1,i,k,hi,hk=>by
  obtain⟨k',rfl,_⟩:=a8 hk
  have hin:i<n:=by omega
  simp only [jE,bF,dT (show(i:Int)<(n:Int) by omega),bT,dV (f:=q) hin,oB,mZ (hq i hin) hB,ng]
  by_cases h:(q i).num.sign<0
  ·simp only [dT h,bT]
  ·simp only [dF h,bO,mS (i:=i) (by omega),oB]
   exact aJv hq hB hn K t (i+1) k' (by omega) (by omega)
theorem aQ0 {q:Nat→Rat} {n B:Nat} (hq:∀i,i<n→Bd B (q i)) (hB:B≤1073741824) (hn:n≤1000) {K:Nat} (hK:n<K):mC K (mp q n)=some (ng q n 0)∧rK K (mp q n)=some (ng q n 0):=by
 have e1:=aMo hq hB hn K n 0 K (by omega) hK
 have e2:=aJv hq hB hn K n 0 K (by omega) hK
 simp only [Int.natCast_zero] at e1 e2
 constructor
 ·simp only [mC,e1,oB,mP]
  cases ng q n 0<;>rfl
 ·simp only [rK,e2,oB,tF]
  cases ng q n 0<;>rfl
def rw1 (M:Nat→Nat→Rat) (n i k c:Nat):Rat:=if n≤c∧c<n+k then -(M i (c-n)) else gI z0 i 1 c
theorem aHN {M:Nat→Nat→Rat} {n i k:Nat} (hi:i<n):mp (gI (rw1 M n i k) (n+k) (-(M i k))) (2*n+2)=mp (rw1 M n i (k+1)) (2*n+2):=bZ fun c _=>by
 by_cases e:c=n+k
 ·subst e;rw [aW];unfold rw1;rw [if_pos ⟨by omega,by omega⟩,Nat.add_sub_cancel_left]
 ·rw [bY e];unfold rw1
  by_cases h:n≤c∧c<n+k
  ·rw [if_pos h,if_pos ⟨h.1,by omega⟩]
  ·rw [if_neg h,if_neg (by omega)]
theorem aJl {M:Nat→Nat→Rat} {q:Nat→Rat} {n i:Nat} (hi:i<n):mp (gI (gI (rw1 M n i n) (2*n) (-1)) (2*n+1) (q i)) (2*n+2)=mp (k5 M q n i) (2*n+2):=bZ fun c hc=>by
 unfold k5
 by_cases e1:c=2*n+1
 ·subst e1;rw [aW,if_neg (by omega),if_neg (by omega),if_neg (by omega)]
 ·rw [bY e1]
  by_cases e2:c=2*n
  ·subst e2;rw [aW,if_neg (by omega),if_neg (by omega),if_pos rfl]
  ·rw [bY e2]
   unfold rw1
   by_cases h:c<n
   ·rw [if_neg (by omega),if_pos h]
    by_cases e3:c=i
    ·subst e3;rw [aW,if_pos rfl]
    ·rw [bY e3,if_neg (fun e=>e3 e.symm)];rfl
   ·rw [if_pos ⟨by omega,by omega⟩,if_neg h,if_pos (by omega)]
theorem aJR {M:Nat→Nat→Rat} {q:Nat→Rat} {n i B:Nat} (hM:Bdx n n B M) (hB:B≤1073741824) (hi:i<n) (hn:n≤1000) (K:Nat):∀(t k fu:Nat),k+t=n→t<fu→eR K (mx M n n) (mp q n) (i:Int) fu (mp (rw1 M n i k) (2*n+2)) (k:Int)=some (mp (rw1 M n i n) (2*n+2))
 |0,k,fu,hk,hf=>by
  obtain⟨fu',rfl,_⟩:=a8 hf
  have e:k=n:=by omega
  subst e
  simp only [eR,bF,dF (show¬(k:Int)<(k:Int) by omega),bO]
 |t+1,k,fu,hk,hf=>by
  obtain⟨fu',rfl,_⟩:=a8 hf
  have hkn:k<n:=by omega
  have c1:aP ((n:Int)+(k:Int))=some ((n+k:Nat):Int):=by rw [kM (by omega)];rfl
  simp only [eR,bF,dT (show(k:Int)<(n:Int) by omega),bT,c1,oB,aBL (g:=M) (w:=n) hi,dV (f:=M i) hkn,aCr (hM i k hi hkn) hB,dV (f:=rw1 M n i k) (n:=2*n+2) (i:=n+k) (by omega),rX (f:=rw1 M n i k) (n:=2*n+2) (i:=n+k) (by omega),aHN hi,mS (i:=k) (by omega)]
  exact aJR hM hB hi hn K t (k+1) fu' (by omega) (by omega)
theorem aHd {M:Nat→Nat→Rat} {q:Nat→Rat} {n i B:Nat} (hM:Bdx n n B M) (hB:B≤1073741824) (hi:i<n) (hn:n≤1000) (K:Nat):∀(t k fu:Nat),k+t=n→t<fu→kC K (mx M n n) (mp q n) (i:Int) fu (mp (rw1 M n i k) (2*n+2)) (k:Int)=some (mp (rw1 M n i n) (2*n+2))
 |0,k,fu,hk,hf=>by
  obtain⟨fu',rfl,_⟩:=a8 hf
  have e:k=n:=by omega
  subst e
  simp only [kC,bF,dF (show¬(k:Int)<(k:Int) by omega),bO]
 |t+1,k,fu,hk,hf=>by
  obtain⟨fu',rfl,_⟩:=a8 hf
  have hkn:k<n:=by omega
  have c1:aP ((n:Int)+(k:Int))=some ((n+k:Nat):Int):=by rw [kM (by omega)];rfl
  simp only [kC,bF,dT (show(k:Int)<(n:Int) by omega),bT,c1,oB,aBL (g:=M) (w:=n) hi,dV (f:=M i) hkn,aCr (hM i k hi hkn) hB,dV (f:=rw1 M n i k) (n:=2*n+2) (i:=n+k) (by omega),rX (f:=rw1 M n i k) (n:=2*n+2) (i:=n+k) (by omega),aHN hi,mS (i:=k) (by omega)]
  exact aHd hM hB hi hn K t (k+1) fu' (by omega) (by omega)
theorem aRd:qof (-1) 1=some (-1):=by
 rw [aIo (by omega) (by omega)]
 exact congrArg some (by decide+kernel)
theorem aNm {M:Nat→Nat→Rat} {q:Nat→Rat} {n B:Nat} (hM:Bdx n n B M) (hB:B≤1073741824) (hn:n≤1000) {K:Nat} (hK:n<K):∀(t i fu:Nat),i+t=n→t<fu→d7 K (mx M n n) (mp q n) fu (mp (fun j=>((j:Nat):Int)) i) (mp (fun j=>j) i) (mx (k5 M q n) i (2*n+2)) (i:Int)=some (mp (fun j=>((j:Nat):Int)) n,mp (fun j=>j) n,mx (k5 M q n) n (2*n+2))
 |0,i,fu,hi,hf=>by
  obtain⟨fu',rfl,_⟩:=a8 hf
  have e:i=n:=by omega
  subst e
  simp only [d7,bF,dF (show¬(i:Int)<(i:Int) by omega),bO]
 |t+1,i,fu,hi,hf=>by
  obtain⟨fu',rfl,_⟩:=a8 hf
  have hin:i<n:=by omega
  have c1:aP (2*(n:Int))=some ((2*n:Nat):Int):=by rw [kM (by omega)];rfl
  have c2:aP (((2*n:Nat):Int)+2)=some ((2*n+2:Nat):Int):=by rw [kM (by omega)];rfl
  have c3:aP (((2*n:Nat):Int)+1)=some ((2*n+1:Nat):Int):=by rw [kM (by omega)];rfl
  have e116:=aJR (q:=q) hM hB hin hn K n 0 K (by omega) hK
  have e0:mp (rw1 M n i 0) (2*n+2)=mp (gI z0 i 1) (2*n+2):=bZ fun c _=>if_neg (by omega)
  rw [e0] at e116
  simp only [Int.natCast_zero] at e116
  have a1:qD (mp (fun j=>j) i) [i]=some (mp (fun j=>j) (i+1)):=apM (g:=fun j=>j) (by omega)
  have a2:qD (mp (fun j=>((j:Nat):Int)) i) [(i:Int)]=some (mp (fun j=>((j:Nat):Int)) (i+1)):=apM (g:=fun j=>((j:Nat):Int)) (by omega)
  have a3:mx (k5 M q n) i (2*n+2)++[mp (k5 M q n i) (2*n+2)]=mx (k5 M q n) (i+1) (2*n+2):=(aDx (fun i=>mp (k5 M q n i) (2*n+2)) i).symm
  simp only [d7,bF,dT (show(i:Int)<(n:Int) by omega),bT,c1,c2,aBx (z:=(0:Rat)) (n:=2*n+2) (by omega),aG6,oB,dV (f:=fun _=>(0:Rat)) (n:=2*n+2) (i:=i) (by omega),rX (f:=fun _=>(0:Rat)) (n:=2*n+2) (i:=i) (by omega),show gI (fun _=>(0:Rat)) i 1=gI z0 i 1 from rfl,e116,lF,aRd,dV (f:=rw1 M n i n) (n:=2*n+2) (i:=2*n) (by omega),rX (f:=rw1 M n i n) (n:=2*n+2) (i:=2*n) (by omega),c3,dV (f:=q) hin,dV (f:=gI (rw1 M n i n) (2*n) (-1)) (n:=2*n+2) (i:=2*n+1) (by omega),rX (f:=gI (rw1 M n i n) (2*n) (-1)) (n:=2*n+2) (i:=2*n+1) (by omega),aJl hin,uJ,a1,a2,a3,mS (i:=i) (by omega)]
  exact aNm hM hB hn hK t (i+1) fu' (by omega) (by omega)
theorem aI4 {M:Nat→Nat→Rat} {q:Nat→Rat} {n B:Nat} (hM:Bdx n n B M) (hB:B≤1073741824) (hn:n≤1000) {K:Nat} (hK:n<K):∀(t i fu:Nat),i+t=n→t<fu→kT K (mx M n n) (mp q n) 1 fu (mp (fun j=>((j:Nat):Int)) i) (mx (k5 M q n) i (2*n+2)) (i:Int)=some (mp (fun j=>((j:Nat):Int)) n,mx (k5 M q n) n (2*n+2))
 |0,i,fu,hi,hf=>by
  obtain⟨fu',rfl,_⟩:=a8 hf
  have e:i=n:=by omega
  subst e
  simp only [kT,bF,dF (show¬(i:Int)<(i:Int) by omega),bO]
 |t+1,i,fu,hi,hf=>by
  obtain⟨fu',rfl,_⟩:=a8 hf
  have hin:i<n:=by omega
  have c1:aP (2*(n:Int))=some ((2*n:Nat):Int):=by rw [kM (by omega)];rfl
  have c2:aP (((2*n:Nat):Int)+2)=some ((2*n+2:Nat):Int):=by rw [kM (by omega)];rfl
  have c3:aP (((2*n:Nat):Int)+1)=some ((2*n+1:Nat):Int):=by rw [kM (by omega)];rfl
  have e318:=aHd (q:=q) hM hB hin hn K n 0 K (by omega) hK
  have e0:mp (rw1 M n i 0) (2*n+2)=mp (gI z0 i 1) (2*n+2):=bZ fun c _=>if_neg (by omega)
  rw [e0] at e318
  simp only [Int.natCast_zero] at e318
  have a2:qD (mp (fun j=>((j:Nat):Int)) i) [(i:Int)]=some (mp (fun j=>((j:Nat):Int)) (i+1)):=apM (g:=fun j=>((j:Nat):Int)) (by omega)
  have a3:qD (mx (k5 M q n) i (2*n+2)) [mp (k5 M q n i) (2*n+2)]=some (mx (k5 M q n) (i+1) (2*n+2)):=apM (g:=fun i=>mp (k5 M q n i) (2*n+2)) (by omega)
  simp only [kT,bF,dT (show(i:Int)<(n:Int) by omega),bT,c1,c2,aBx (z:=(0:Rat)) (n:=2*n+2) (by omega),oB,dV (f:=fun _=>(0:Rat)) (n:=2*n+2) (i:=i) (by omega),rX (f:=fun _=>(0:Rat)) (n:=2*n+2) (i:=i) (by omega),show gI (fun _=>(0:Rat)) i 1=gI z0 i 1 from rfl,e318,tX,aRd,dV (f:=rw1 M n i n) (n:=2*n+2) (i:=2*n) (by omega),rX (f:=rw1 M n i n) (n:=2*n+2) (i:=2*n) (by omega),c3,dV (f:=q) hin,dV (f:=gI (rw1 M n i n) (2*n) (-1)) (n:=2*n+2) (i:=2*n+1) (by omega),rX (f:=gI (rw1 M n i n) (2*n) (-1)) (n:=2*n+2) (i:=2*n+1) (by omega),aJl hin,a2,a3,mS (i:=i) (by omega)]
  exact aI4 hM hB hn hK t (i+1) fu' (by omega) (by omega)
end Go.Proofs.YtcjdedkdoagifaaGreat
set_option linter.unusedVariables false
namespace Go.Proofs.YtcjdedkdoagifaaGreat
theorem aJu {T:Nat→Nat→Rat} {n i:Nat} {c:Rat}:∀t j,lx T n i c i c t j=false
 |0,_=>rfl
 |t+1,j=>by unfold lx;rw [decide_eq_true (rfl:T i (iV n j)/c=T i (iV n j)/c),bT];exact aJu t (j+1)
def uX (T:Nat→Nat→Rat) (n:Nat):Nat→Nat→Nat→Nat
 |0,_,r=>r
 |t+1,i,r=>bif les T n i 1 r 1 then uX T n t (i+1) i else uX T n t (i+1) r
theorem aAc {T:Nat→Nat→Rat} {n:Nat}:∀t i r,r<n→i+t≤n→uX T n t i r<n
 |0,i,r,hr,_=>hr
 |t+1,i,r,hr,h=>by
  unfold uX
  cases les T n i 1 r 1
  ·exact aAc t (i+1) r hr (by omega)
  ·exact aAc t (i+1) i (by omega) (by omega)
theorem aL0 {n B:Nat} {rs:List (List Rat)} {od:Nat→Nat} {T:Nat→Nat→Rat} {bs:List Int} (h:aAj n (2*n+2) rs od T) (hT:Bdx n (2*n+2) B T) (hB:B≤200000000) (hn:n≤1000) {K:Nat} (hK:2000≤K):∀(t i fu r:Nat),i+t=n→t<fu→r<n→fP K ((n:Int),mp od n,bs,rs) 1 fu (r:Int) (i:Int)=some ((uX T n t i r:Nat):Int)
 |0,i,fu,r,hi,hf,hr=>by
  obtain⟨fu',rfl,_⟩:=a8 hf
  simp only [fP,dF (show¬(i:Int)<(n:Int) by omega),bO,uX]
 |t+1,i,fu,r,hi,hf,hr=>by
  obtain⟨fu',rfl,_⟩:=a8 hf
  have hin:i<n:=by omega
  simp only [fP,dT (show(i:Int)<(n:Int) by omega),bT,aG8 (a6:=bs) h hT hin hr aAA aAA (show B+8≤500000000 by omega) hn hK,oB,mS (i:=i) (by omega),uX]
  cases les T n i 1 r 1
  ·simp only [bO];exact aL0 h hT hB hn hK t (i+1) fu' r (by omega) (by omega) hr
  ·simp only [bT];exact aL0 h hT hB hn hK t (i+1) fu' i (by omega) (by omega) hin
theorem aMn {n B:Nat} {T:Nat→Nat→Rat} {a1:List Rat} (h1:a1.length=n) (hT:Bdx n (2*n+2) B T) (hB:B≤200000000) (hn:n≤1000) {K:Nat} (hK:2000≤K):∀(t i fu r:Nat),i+t=n→t<fu→r<n→iG K a1 1 (mx T n (2*n+2)) fu (r:Int) (i:Int)=some ((uX T n t i r:Nat):Int)
 |0,i,fu,r,hi,hf,hr=>by
  obtain⟨fu',rfl,_⟩:=a8 hf
  simp only [iG,h1,dF (show¬(i:Int)<(n:Int) by omega),bO,uX]
 |t+1,i,fu,r,hi,hf,hr=>by
  obtain⟨fu',rfl,_⟩:=a8 hf
  have hin:i<n:=by omega
  simp only [iG,h1,dT (show(i:Int)<(n:Int) by omega),bT,aBL (g:=T) (w:=2*n+2) hin,aBL (g:=T) (w:=2*n+2) hr,oB,aGn hT hin aAA (by omega) (by omega) hn hK,aGn hT hr aAA (by omega) (by omega) hn hK,aFz hT hin hr aAA aAA (show B+8≤500000000 by omega) hn hK,mS (i:=i) (by omega),uX]
  cases les T n i 1 r 1
  ·simp only [bO];exact aMn h1 hT hB hn hK t (i+1) fu' r (by omega) (by omega) hr
  ·simp only [bT];exact aMn h1 hT hB hn hK t (i+1) fu' i (by omega) (by omega) hin
theorem aA6 {q:Nat→Rat} {n:Nat} (h:ng q n 0=true):0<n:=by
 cases n with
 |zero=>exact absurd (show false=true from h) (by decide)
 |succ m=>exact Nat.succ_pos m
def tN (M:Nat→Nat→Rat) (q:Nat→Rat) (n most:Nat):aO×Int:=
 bif ng q n 0 then lem n most (most+1) (k5 M q n) (fun j=>j) (uX (k5 M q n) n n 0 0) (2*n) 0 else(⟨mp z0 n,mp q n,0⟩,0)
theorem aFQ {M:Nat→Nat→Rat} {q:Nat→Rat} {n r:Nat} (hr:r<n):LI n (k5 M q n) (k5 M q n) (fun j=>j) r (2*n):=by
 refine⟨aIx,hr,Nat.le_refl _,?_,fun j hj=>by omega,fun _=>by omega⟩
 unfold k5
 rw [if_neg (by omega),if_neg (by omega),if_pos rfl];decide
theorem aGz {T:Nat→Nat→Rat} {n w:Nat}:aAj n w (mx T n w) (fun j=>j) T:=
 ⟨fun i hi=>by rw [uJ];exact hi,fun i j _ _ e=>e,fun i hi=>by unfold mx;rw [List.getD_eq_getElem?_getD,yR hi];rfl⟩
theorem aMZ {M:Nat→Nat→Rat} {q:Nat→Rat} {n:Nat}:∀i,i≤n→swv (k5 M q n) (fun j=>j) n i=(fun j=>if j<i then q j else 0)∧szv (k5 M q n) (fun j=>j) n i=z0
 |0,_=>⟨funext fun j=>by show(0:Rat)=_;rw [if_neg (show¬j<0 by omega)],rfl⟩
 |i+1,h=>by
  obtain⟨e1,e2⟩:=aMZ (M:=M) (q:=q) (n:=n) i (by omega)
  have e3:k5 M q n i (2*n+1)=q i:=by unfold k5;rw [if_neg (show¬2*n+1<n by omega),if_neg (show¬2*n+1<2*n by omega),if_neg (show¬2*n+1=2*n by omega)]
  unfold swv szv
  rw [if_pos (show i<n by omega),if_pos (show i<n by omega),e1,e2,e3]
  refine⟨funext fun j=>?_,rfl⟩
  by_cases e:j=i
  ·subst e;rw [aW,if_pos (by omega)]
  ·rw [bY e]
   by_cases e4:j<i
   ·rw [if_pos e4,if_pos (by omega)]
   ·rw [if_neg e4,if_neg (by omega)]
theorem aKB {M:Nat→Nat→Rat} {q:Nat→Rat} {n B most:Nat} (hM:Bdx n n B M) (hq:∀i,i<n→Bd B (q i)) (hZ:Sm n B (k5 M q n)) (hB:B≤200000000) (hn:n≤32) (hm:most≤100000) {K:Nat} (hK:5000≤K) (hK2:most<K):
  mI K (mx M n n) (mp q n) (most:Int)=some (tN M q n most)∧qE K (mx M n n) (mp q n) (most:Int)=some (tN M q n most):=by
 have hng:=aQ0 hq (by omega) (show n≤1000 by omega) (show n<K by omega)
 have hT:=hZ _ _ aIx
 have s1:=aNm (q:=q) hM (by omega) (show n≤1000 by omega) (show n<K by omega) n 0 K (by omega) (by omega)
 have s2:=aI4 (q:=q) hM (by omega) (show n≤1000 by omega) (show n<K by omega) n 0 K (by omega) (by omega)
 have z1:mp (fun j=>((j:Nat):Int)) 0=[]:=rfl
 have z2:mp (fun j:Nat=>j) 0=[]:=rfl
 have z3:mx (k5 M q n) 0 (2*n+2)=[]:=rfl
 simp only [Int.natCast_zero,z1,z2,z3] at s1 s2
 have st:mB K (mx M n n) (mp q n)=some ((n:Int),mp (fun j=>j) n,mp (fun j=>((j:Nat):Int)) n,mx (k5 M q n) n (2*n+2)):=by
  simp only [mB,s1,oB,lY,bF]
 have c1:aP (2*(n:Int))=some ((2*n:Nat):Int):=by rw [kM (by omega)];rfl
 by_cases hneg:ng q n 0=true
 ·have hn0:=aA6 hneg
  have hr:=aAc (T:=k5 M q n) n 0 0 hn0 (by omega)
  have l1:=aL0 (bs:=mp (fun j=>((j:Nat):Int)) n) (aGz (T:=k5 M q n)) hT hB (show n≤1000 by omega) (show 2000≤K by omega) n 0 K 0 (by omega) (by omega) hn0
  have l2:=aMn (a1:=mp q n) (bF _ _) hT hB (show n≤1000 by omega) (show 2000≤K by omega) (n-1) 1 K 0 (by omega) (by omega) hn0
  have e0:uX (k5 M q n) n (n-1) 1 0=uX (k5 M q n) n n 0 0:=by
   obtain⟨m,rfl⟩:∃m,n=m+1:=⟨n-1,by omega⟩
   have e:les (k5 M q (m+1)) (m+1) 0 1 0 1=false:=aJu _ _
   have e2:uX (k5 M q (m+1)) (m+1) (m+1) 0 0=bif les (k5 M q (m+1)) (m+1) 0 1 0 1 then uX (k5 M q (m+1)) (m+1) m 1 0 else uX (k5 M q (m+1)) (m+1) m 1 0:=rfl
   rw [e2,e,bO];rfl
  rw [e0] at l2
  simp only [Int.natCast_zero,Int.natCast_one] at l1 l2
  have r1:=aR0 (v6:=((n:Int),mp (fun j=>j) n,mp (fun j=>((j:Nat):Int)) n,mx (k5 M q n) n (2*n+2))) rfl hZ hB (show n≤1000 by omega) hm hK (most+1) 0 K _ _ _ _ _ _ (by omega) (by omega) (by omega) aGz (aFQ (M:=M) (q:=q) hr)
  have r2:=aSD (a1:=mp q n) (bF _ _) hZ hB (show n≤1000 by omega) hm hK (most+1) 0 K _ _ _ _ (by omega) (by omega) (by omega) (aFQ (M:=M) (q:=q) hr)
  simp only [Int.natCast_zero] at r1 r2
  constructor
  ·simp only [mI,aFk hM hq (show B≤1073741824 by omega) hn (show 100≤K by omega),oB,Bool.not_true,bO,dF (show¬(most:Int)<0 by omega),st,hng.1,hneg,aG6,l1,nS,c1,r1,tN,bT]
  ·simp only [qE,aD1 hM hq (show B≤1073741824 by omega) hn (show 100≤K by omega),oB,Bool.not_true,bO,dF (show¬(most:Int)<0 by omega),hng.2,hneg,aG6,s2,uS,l2,uW,bF,c1,r2,tN,bT]
 ·have hneg':ng q n 0=false:=by cases h:ng q n 0 with|true=>exact absurd h hneg|false=>rfl
  obtain⟨e1,e2⟩:=aMZ (M:=M) (q:=q) (n:=n) n (Nat.le_refl _)
  have ps:=aKd (b:=fun j=>j) (aGz (T:=k5 M q n) (n:=n) (w:=2*n+2)) (show n≤1000 by omega) (show 2000≤K by omega)
  rw [e1,e2,bZ (f:=fun j=>if j<n then q j else 0) (g:=q) fun i hi=>if_pos hi] at ps
  constructor
  ·simp only [mI,aFk hM hq (show B≤1073741824 by omega) hn (show 100≤K by omega),oB,Bool.not_true,bO,dF (show¬(most:Int)<0 by omega),st,hng.1,hneg',Bool.not_false,bT,ps,tN]
  ·simp only [qE,aD1 hM hq (show B≤1073741824 by omega) hn (show 100≤K by omega),oB,Bool.not_true,bO,dF (show¬(most:Int)<0 by omega),hng.2,hneg',Bool.not_false,bT,bF,aBx (z:=(0:Rat)) (n:=n) (by omega),tN]
   rfl
end Go.Proofs.YtcjdedkdoagifaaGreat
set_option linter.unusedVariables false
namespace Go.Proofs.YtcjdedkdoagifaaGreat
/-- What kills the tableau kills the first one. -/
def KE (n w:Nat) (Z T:Nat→Nat→Rat):Prop:=∀x:Nat→Rat,(∀i,i<n→sm (fun k=>T i k*x k) w=0)→∀i,i<n→sm (fun k=>Z i k*x k) w=0
theorem KE.pivot {n w r c:Nat} {Z T:Nat→Nat→Rat} (h:KE n w Z T) (hr:r<n) (hp:T r c≠0):KE n w Z (nL T r c):=fun x hx=>h x fun i hi=>by
 have e0:sm (fun k=>T r k*x k) w=0:=by
  have h1:=hx r hr
  have e:sm (fun k=>nL T r c r k*x k) w=(1/T r c)*sm (fun k=>T r k*x k) w:=by
   rw [←sF];exact bJ fun k _=>by unfold nL;rw [if_pos rfl];grind
  rw [e] at h1
  grind
 by_cases e:i=r
 ·rw [e];exact e0
 ·have h1:=hx i hi
  have e1:sm (fun k=>nL T r c i k*x k) w=sm (fun k=>T i k*x k) w-(T i c/T r c)*sm (fun k=>T r k*x k) w:=by
   rw [←aA1];exact bJ fun k _=>by unfold nL;rw [if_neg e];grind
  rw [e1,e0] at h1
  grind
def bx (T:Nat→Nat→Rat) (b:Nat→Nat) (n k:Nat):Rat:=if k=2*n+1 then -1 else sm (fun i=>if b i=k then T i (2*n+1) else 0) n
theorem aRI {n w:Nat} {Z T:Nat→Nat→Rat} {b:Nat→Nat} (h:TI n w Z T b) (hb:∀j,j<n→b j≤2*n) {j:Nat} (hj:j<n):bx T b n (b j)=T j (2*n+1):=by
 have:=hb j hj
 unfold bx
 rw [if_neg (by omega),rW hj fun i hi hne=>if_neg fun e=>hne (h.inj hi hj e),if_pos rfl]
theorem aKp {n:Nat} {T:Nat→Nat→Rat} {b:Nat→Nat} {k:Nat} (hk:k≠2*n+1) (h:∀i,i<n→b i≠k):bx T b n k=0:=by
 unfold bx
 rw [if_neg hk]
 exact nZ fun i hi=>if_neg (h i hi)
theorem aN3 {n:Nat} {Z T:Nat→Nat→Rat} {b:Nat→Nat} (h:TI n (2*n+2) Z T b) (hb:∀j,j<n→b j≤2*n) {i:Nat} (hi:i<n):sm (fun k=>T i k*bx T b n k) (2*n+2)=0:=by
 show sm _ (2*n+1)+T i (2*n+1)*bx T b n (2*n+1)=0
 have e1:bx T b n (2*n+1)=-1:=if_pos rfl
 have e2:sm (fun k=>T i k*bx T b n k) (2*n+1)=sm (fun k=>sm (fun j=>if b j=k then T i k*T j (2*n+1) else 0) n) (2*n+1):=bJ fun k hk=>by
  unfold bx
  rw [if_neg (by omega),←sF]
  refine bJ fun j _=>?_
  by_cases e:b j=k
  ·rw [if_pos e,if_pos e]
  ·rw [if_neg e,if_neg e,Rat.mul_zero]
 have e3:sm (fun j=>sm (fun k=>if b j=k then T i k*T j (2*n+1) else 0) (2*n+1)) n=T i (2*n+1):=by
  have:sm (fun j=>sm (fun k=>if b j=k then T i k*T j (2*n+1) else 0) (2*n+1)) n=sm (fun j=>T i (b j)*T j (2*n+1)) n:=bJ fun j hj=>by
   have:=hb j hj
   rw [rW (p:=b j) (by omega) fun k _ hne=>if_neg fun e=>hne e.symm,if_pos rfl]
  rw [this,rW hi fun j hj hne=>by rw [h.un i j hi hj,if_neg fun e=>hne e.symm,Rat.zero_mul],h.un i i hi hi,if_pos rfl,Rat.one_mul]
 rw [e2,aA3,e3,e1]
 grind
theorem aA2 (f:Nat→Rat) (a:Nat):∀b,sm f (a+b)=sm f a+sm (fun j=>f (a+j)) b
 |0=>by show sm f a=sm f a+0;rw [Rat.add_zero]
 |b+1=>by
  show sm f (a+b)+f (a+b)=sm f a+(sm (fun j=>f (a+j)) b+f (a+b))
  rw [aA2 f a b,Rat.add_assoc]
theorem aP6 {M:Nat→Nat→Rat} {q x:Nat→Rat} {n i:Nat} (hi:i<n) (h:sm (fun k=>k5 M q n i k*x k) (2*n+2)=0) (h1:x (2*n+1)=-1):x i=sm (fun j=>M i j*x (n+j)) n+x (2*n)+q i:=by
 have e:2*n+2=(n+n)+2:=by omega
 rw [e,aA2,aA2] at h
 have e1:sm (fun k=>k5 M q n i k*x k) n=x i:=by
  have:k5 M q n i i=1:=by unfold k5;rw [if_pos hi,if_pos rfl]
  rw [rW hi fun k hk hne=>by unfold k5;rw [if_pos hk,if_neg fun e=>hne e.symm,Rat.zero_mul],this,Rat.one_mul]
 have e2:sm (fun j=>k5 M q n i (n+j)*x (n+j)) n=-(sm (fun j=>M i j*x (n+j)) n):=by
  rw [←aBN]
  refine bJ fun j hj=>?_
  unfold k5
  rw [if_neg (by omega),if_pos (by omega),show n+j-n=j by omega,Rat.neg_mul]
 have e3:sm (fun j=>k5 M q n i (n+n+j)*x (n+n+j)) 2=-(x (2*n))-q i:=by
  show 0+k5 M q n i (n+n+0)*x (n+n+0)+k5 M q n i (n+n+1)*x (n+n+1)=_
  rw [show n+n+0=2*n by omega,show n+n+1=2*n+1 by omega,h1]
  unfold k5
  rw [if_neg (by omega),if_neg (by omega),if_pos rfl,if_neg (by omega),if_neg (by omega),if_neg (by omega)]
  grind
 rw [e1,e2,e3] at h
 grind
def nn (f:Nat→Rat):Nat→Nat→Prop
 |0,_=>True
 |t+1,j=>0<f j∨(f j=0∧nn f t (j+1))
theorem nn.congr {f g:Nat→Rat}:∀{t j:Nat},(∀k,f k=g k)→nn f t j→nn g t j
 |0,_,_,_=>trivial
 |t+1,j,e,h=>by
  unfold nn at h ⊢
  rw [←e j]
  exact h.imp id fun h=>⟨h.1,nn.congr e h.2⟩
theorem nn.add {f g:Nat→Rat}:∀{t j:Nat},nn f t j→nn g t j→nn (fun k=>f k+g k) t j
 |0,_,_,_=>trivial
 |t+1,j,h1,h2=>by
  unfold nn at h1 h2 ⊢
  rcases h1 with h1|⟨h1,k1⟩<;>rcases h2 with h2|⟨h2,k2⟩
  ·left;grind
  ·left;grind
  ·left;grind
  ·right;exact⟨by grind,nn.add k1 k2⟩
theorem nn.mul {f:Nat→Rat} {a:Rat} (ha:0≤a):∀{t j:Nat},nn f t j→nn (fun k=>a*f k) t j
 |0,_,_=>trivial
 |t+1,j,h=>by
  unfold nn at h ⊢
  by_cases e:a=0
  ·right
   refine⟨by rw [e,Rat.zero_mul],?_⟩
   have:∀t j,nn (fun k=>a*f k) t j:=fun t=>by
    induction t with
    |zero=>intro j;trivial
    |succ t ih=>intro j;exact Or.inr ⟨by show a*f j=0;rw [e,Rat.zero_mul],ih (j+1)⟩
   exact this t (j+1)
  ·rcases h with h|⟨h,k⟩
   ·left
    exact Rat.mul_pos (by grind) h
   ·right
    exact⟨by rw [h,Rat.mul_zero],nn.mul ha k⟩
theorem nn.head {f:Nat→Rat} {t j:Nat} (h:nn f (t+1) j):0≤f j:=by
 unfold nn at h
 rcases h with h|h
 ·exact Rat.le_of_lt h
 ·rw [h.1];exact Rat.le_refl
theorem aHU {T:Nat→Nat→Rat} {n i k:Nat} {c d:Rat}:∀t j,(lx T n i c k d t j=false→nn (fun j=>T i (iV n j)/c-T k (iV n j)/d) t j)∧(lx T n i c k d t j=true→nn (fun j=>T k (iV n j)/d-T i (iV n j)/c) t j)
 |0,j=>⟨fun _=>trivial,fun h=>absurd h (by unfold lx;decide)⟩
 |t+1,j=>by
  obtain⟨i1,i2⟩:=aHU (T:=T) (n:=n) (i:=i) (k:=k) (c:=c) (d:=d) t (j+1)
  unfold lx nn
  by_cases e:T i (iV n j)/c=T k (iV n j)/d
  ·rw [decide_eq_true e,bT]
   exact⟨fun h=>Or.inr ⟨by rw [e];grind,i1 h⟩,fun h=>Or.inr ⟨by rw [e];grind,i2 h⟩⟩
  ·rw [decide_eq_false e,bO]
   refine⟨fun h=>Or.inl ?_,fun h=>Or.inl ?_⟩
   ·have:=of_decide_eq_false h
    grind
   ·have:=of_decide_eq_true h
    grind
def aCF (T:Nat→Nat→Rat) (n c k r:Nat):Prop:=nn (fun j=>T k (iV n j)/T k c-T r (iV n j)/T r c) (n+1) 0
theorem aBh {T:Nat→Nat→Rat} {n c:Nat}:∀t i s r,(∀q,s=some q→∀k,k<i→0<(T k c).num.sign→aCF T n c k q)→(s=none→∀k,k<i→¬0<(T k c).num.sign)→sel T n c t i s=some r→∀k,k<i+t→0<(T k c).num.sign→aCF T n c k r
 |0,i,s,r,h1,h2,e,k,hk,hp=>h1 r e k (by omega) hp
 |t+1,i,s,r,h1,h2,e,k,hk,hp=>by
  unfold sel at e
  have refl:aCF T n c i i:=by
   have:∀t j,nn (fun j=>T i (iV n j)/T i c-T i (iV n j)/T i c) t j:=fun t=>by
    induction t with
    |zero=>intro j;trivial
    |succ t ih=>intro j;exact Or.inr ⟨by grind,ih (j+1)⟩
   exact this _ _
  by_cases hi:0<(T i c).num.sign
  ·rw [decide_eq_true hi,bT] at e
   cases s with
   |none=>
    refine aBh t (i+1) (some i) r (fun q hq k hk hp=>?_) (fun h=>by cases h) e k (by omega) hp
    cases hq
    by_cases e2:k=i
    ·rw [e2];exact refl
    ·exact absurd hp (h2 rfl k (by omega))
   |some p=>
    simp only at e
    cases hl:les T n i (T i c) p (T p c)
    ·rw [hl,bO] at e
     refine aBh t (i+1) (some p) r (fun q hq k hk hp=>?_) (fun h=>by cases h) e k (by omega) hp
     cases hq
     by_cases e2:k=i
     ·rw [e2];exact(aHU _ _).1 hl
     ·exact h1 p rfl k (by omega) hp
    ·rw [hl,bT] at e
     refine aBh t (i+1) (some i) r (fun q hq k hk hp=>?_) (fun h=>by cases h) e k (by omega) hp
     cases hq
     by_cases e2:k=i
     ·rw [e2];exact refl
     ·exact((h1 p rfl k (by omega) hp).add ((aHU _ _).2 hl)).congr fun j=>by grind
  ·rw [decide_eq_false hi,bO] at e
   refine aBh t (i+1) s r (fun q hq k hk hp=>?_) (fun h k hk=>?_) e k (by omega) hp
   ·by_cases e2:k=i
    ·rw [e2] at hp;exact absurd hp hi
    ·exact h1 q hq k (by omega) hp
   ·by_cases e2:k=i
    ·rw [e2];exact hi
    ·exact h2 h k (by omega)
theorem aNn {a:Rat}:0<a.num↔0<a:=by
 have h1:=Rat.num_nonneg (q:=a)
 have h2:=Rat.num_eq_zero (q:=a)
 constructor
 ·intro h
  have h3:0≤a:=h1.1 (by omega)
  have h4:a≠0:=fun e=>by have:=h2.2 e;omega
  grind
 ·intro h
  have h3:0≤a.num:=h1.2 (by grind)
  have h4:a.num≠0:=fun e=>by have:=h2.1 e;grind
  omega
theorem aKt {x:Rat}:0<x.num.sign↔0<x:=by rw [Int.sign_pos_iff];exact aNn
def LX (n:Nat) (T:Nat→Nat→Rat):Prop:=∀i,i<n→nn (fun j=>T i (iV n j)) (n+1) 0
theorem LX.last {n i:Nat} {T:Nat→Nat→Rat} (h:LX n T) (hi:i<n):0≤T i (2*n+1):=(h i hi).head
theorem LX.pivot {n r c:Nat} {T:Nat→Nat→Rat} (h:LX n T) (hr:r<n) (hp:0<T r c) (hm:∀k,k<n→0<T k c→aCF T n c k r):LX n (nL T r c):=fun i hi=>by
 have hinv:(0:Rat)≤1/T r c:=by rw [Rat.div_def,Rat.one_mul];exact Rat.le_of_lt (Rat.inv_pos.2 hp)
 by_cases e:i=r
 ·exact((h r hr).mul hinv).congr fun j=>by unfold nL;rw [if_pos e];grind
 ·by_cases h2:0<T i c
  ·exact((hm i hi h2).mul (Rat.le_of_lt h2)).congr fun j=>by unfold nL;rw [if_neg e];grind
  ·have h3:0≤(-(T i c))*(1/T r c):=Rat.mul_nonneg (by grind) hinv
   exact((h i hi).add ((h r hr).mul h3)).congr fun j=>by unfold nL;rw [if_neg e];grind
theorem aCd {T:Nat→Nat→Rat} {n:Nat}:∀t i r,(∀k,k<i→nn (fun j=>T k (iV n j)-T r (iV n j)) (n+1) 0)→∀k,k<i+t→nn (fun j=>T k (iV n j)-T (uX T n t i r) (iV n j)) (n+1) 0
 |0,i,r,h,k,hk=>h k (by omega)
 |t+1,i,r,h,k,hk=>by
  unfold uX
  cases hl:les T n i 1 r 1
  ·rw [bO]
   refine aCd t (i+1) r (fun k hk=>?_) k (by omega)
   by_cases e:k=i
   ·rw [e];exact((aHU _ _).1 hl).congr fun j=>by grind
   ·exact h k (by omega)
  ·rw [bT]
   have h1:=(aHU _ _).2 hl
   refine aCd t (i+1) i (fun k hk=>?_) k (by omega)
   by_cases e:k=i
   ·rw [e]
    have:∀t j,nn (fun j=>T i (iV n j)-T i (iV n j)) t j:=fun t=>by
     induction t with
     |zero=>intro j;trivial
     |succ t ih=>intro j;exact Or.inr ⟨by grind,ih (j+1)⟩
    exact this _ _
   ·exact((h k (by omega)).add h1).congr fun j=>by grind
def uC (n x:Nat):Nat:=if x<n then x+n else x-n
theorem aGl {n x:Nat} (h:x<2*n):uC n x<2*n:=by unfold uC;split<;>omega
theorem aBg {n x:Nat} (h:x<2*n):uC n (uC n x)=x:=by
 unfold uC
 by_cases e:x<n
 ·rw [if_pos e,if_neg (by omega)];omega
 ·rw [if_neg e,if_pos (by omega)];omega
theorem aNr {n x:Nat} (hn:0<n):uC n x≠x∨2*n≤x:=by unfold uC;split<;>omega
structure CB (n:Nat) (b:Nat→Nat) (c:Nat):Prop where
 inj:∀i j,i<n→j<n→b i=b j→i=j
 nc:∀i,i<n→b i≠c
 np:c<2*n→∀i,i<n→b i≠uC n c
 pr:∀i j,i<n→j<n→b i<2*n→b j≠uC n (b i)
theorem CB.pr' {n r c:Nat} {b:Nat→Nat} (h:CB n b c) (hr:r<n) (hc:c≤2*n):∀i j,i<n→j<n→gI b r c i<2*n→gI b r c j≠uC n (gI b r c i):=fun i j hi hj hlt=>by
 by_cases e1:i=r
 ·subst e1
  rw [aW] at hlt ⊢
  by_cases e2:j=i
  ·subst e2;rw [aW]
   intro e
   rcases aNr (n:=n) (x:=c) (by omega) with h1|h1
   ·exact h1 e.symm
   ·omega
  ·rw [bY e2];exact h.np hlt j hj
 ·rw [bY e1] at hlt ⊢
  by_cases e2:j=r
  ·subst e2;rw [aW]
   intro e
   have h1:=aGl hlt
   have h2:b i=uC n c:=by rw [e,aBg hlt]
   exact h.np (by omega) i hi h2
  ·rw [bY e2];exact h.pr i j hi hj hlt
theorem CB.inj' {n r c:Nat} {b:Nat→Nat} (h:CB n b c):∀i j,i<n→j<n→gI b r c i=gI b r c j→i=j:=fun i j hi hj e=>by
 by_cases e1:i=r
 ·by_cases e2:j=r
  ·omega
  ·rw [e1,aW,bY e2] at e
   exact absurd e.symm (h.nc j hj)
 ·by_cases e2:j=r
  ·rw [e2,aW,bY e1] at e
   exact absurd e (h.nc i hi)
  ·rw [bY e1,bY e2] at e
   exact h.inj i j hi hj e
theorem CB.next {n r c:Nat} {b:Nat→Nat} (h:CB n b c) (hr:r<n) (hc:c≤2*n) (hl:b r<2*n):CB n (gI b r c) (uC n (b r)):=by
 refine⟨h.inj',fun i hi=>?_,fun _ i hi=>?_,h.pr' hr hc⟩
 ·by_cases e:i=r
  ·rw [e,aW]
   intro e2
   have h1:=aGl hl
   exact h.np (by omega) r hr (by rw [e2,aBg hl])
  ·rw [bY e];exact h.pr r i hr hi hl
 ·rw [aBg hl]
  by_cases e:i=r
  ·rw [e,aW];exact fun e2=>h.nc r hr e2.symm
  ·rw [bY e];exact fun e2=>e (h.inj i r hi hr e2)
structure Sol (M:Nat→Nat→Rat) (q:Nat→Rat) (n:Nat) (z w:Nat→Rat):Prop where
 z0:∀j,j<n→0≤z j
 w0:∀j,j<n→0≤w j
 eq:∀i,i<n→w i=sm (fun j=>M i j*z j) n+q i
 zw:∀j,j<n→z j=0∨w j=0
theorem aPK {n:Nat} {T:Nat→Nat→Rat} {b:Nat→Nat} (hi:∀i j,i<n→j<n→b i=b j→i=j):∀m,m≤n→(∀j,j<n→swv T b n m j=sm (fun i=>if b i=j then T i (2*n+1) else 0) m)∧(∀j,j<n→szv T b n m j=sm (fun i=>if b i=n+j then T i (2*n+1) else 0) m)
 |0,_=>⟨fun _ _=>rfl,fun _ _=>rfl⟩
 |m+1,hm=>by
  obtain⟨h1,h2⟩:=aPK (T:=T) hi m (by omega)
  have zero:sm (fun i=>if b i=b m then T i (2*n+1) else 0) m=0:=nZ fun i h=>if_neg fun e=>by have:=hi i m (by omega) (by omega) e;omega
  refine⟨fun j hj=>?_,fun j hj=>?_⟩
  ·show swv T b n (m+1) j=sm _ m+(if b m=j then T m (2*n+1) else 0)
   rw [←h1 j hj]
   have w1:swv T b n (m+1)=if b m<n then gI (swv T b n m) (b m) (T m (2*n+1)) else swv T b n m:=rfl
   rw [w1]
   by_cases e:b m<n
   ·rw [if_pos e]
    by_cases e2:b m=j
    ·rw [if_pos e2,←e2,aW,h1 (b m) e,zero];grind
    ·rw [if_neg e2,bY (fun h=>e2 h.symm),Rat.add_zero]
   ·rw [if_neg e,if_neg (by omega),Rat.add_zero]
  ·show szv T b n (m+1) j=sm _ m+(if b m=n+j then T m (2*n+1) else 0)
   rw [←h2 j hj]
   have w1:szv T b n (m+1)=if b m<n then szv T b n m else if b m<2*n then gI (szv T b n m) (b m-n) (T m (2*n+1)) else szv T b n m:=rfl
   rw [w1]
   by_cases e:b m<n
   ·rw [if_pos e,if_neg (by omega),Rat.add_zero]
   ·rw [if_neg e]
    by_cases e1:b m<2*n
    ·rw [if_pos e1]
     by_cases e2:b m=n+j
     ·rw [if_pos e2,show b m-n=j by omega,aW,h2 j hj,←e2,zero];grind
     ·rw [if_neg e2,bY (by omega),Rat.add_zero]
    ·rw [if_neg e1,if_neg (by omega),Rat.add_zero]
theorem aOx {M T:Nat→Nat→Rat} {q:Nat→Rat} {n:Nat} {b:Nat→Nat} (ti:TI n (2*n+2) (k5 M q n) T b) (ke:KE n (2*n+2) (k5 M q n) T) (lx:LX n T) (hb:∀i,i<n→b i<2*n) (pr:∀i j,i<n→j<n→b i<2*n→b j≠uC n (b i)):Sol M q n (szv T b n n) (swv T b n n):=by
 have inj:∀i j,i<n→j<n→b i=b j→i=j:=fun i j hi hj e=>ti.inj hi hj e
 obtain⟨h1,h2⟩:=aPK (T:=T) inj n (Nat.le_refl n)
 have ew:∀j,j<n→swv T b n n j=bx T b n j:=fun j hj=>by rw [h1 j hj];unfold bx;rw [if_neg (by omega)]
 have ez:∀j,j<n→szv T b n n j=bx T b n (n+j):=fun j hj=>by rw [h2 j hj];unfold bx;rw [if_neg (by omega)]
 have hb':∀i,i<n→b i≤2*n:=fun i hi=>by have:=hb i hi;omega
 have nnb:∀k,k<2*n→0≤bx T b n k:=fun k hk=>by
  by_cases e:∃i,i<n∧b i=k
  ·obtain⟨i,hi,e⟩:=e
   rw [←e,aRI ti hb' hi];exact lx.last hi
  ·rw [aKp (by omega) fun i hi e2=>e ⟨i,hi,e2⟩];exact Rat.le_refl
 refine⟨fun j hj=>by rw [ez j hj];exact nnb _ (by omega),fun j hj=>by rw [ew j hj];exact nnb _ (by omega),fun i hi=>?_,fun j hj=>?_⟩
 ·have:=aP6 hi (ke (bx T b n) (fun i hi=>aN3 ti hb' hi) i hi) (if_pos rfl)
  rw [aKp (k:=2*n) (by omega) (fun i hi=>by have:=hb i hi;omega),Rat.add_zero] at this
  rw [ew i hi,this]
  congr 1
  exact bJ fun j hj=>by rw [ez j hj]
 ·rw [ez j hj,ew j hj]
  by_cases e:∃i,i<n∧b i=n+j
  ·obtain⟨i,hi,e⟩:=e
   right
   refine aKp (by omega) fun i' hi' e2=>?_
   refine pr i i' hi hi' (by omega) ?_
   rw [e2,e];unfold uC;rw [if_neg (by omega)];omega
  ·left;exact aKp (by omega) fun i hi e2=>e ⟨i,hi,e2⟩
theorem aJU {M:Nat→Nat→Rat} {q:Nat→Rat} {n most:Nat}:∀f T b r c cnt,LI n (k5 M q n) T b r c→KE n (2*n+2) (k5 M q n) T→LX n (nL T r c)→CB n b c→(lem n most f T b r c cnt).2=0→∃z w,(lem n most f T b r c cnt).1.z=mp z n∧(lem n most f T b r c cnt).1.w=mp w n∧Sol M q n z w
 |0,T,b,r,c,cnt,li,ke,lx,cb,h0=>absurd h0 (by unfold lem;decide)
 |f+1,T,b,r,c,cnt,li,ke,lx,cb,h0=>by
  have hc:=li.hc
  have hr:=li.hr
  have ti':=li.ti.pivot hr (show c<2*n+2 by omega) li.hp
  have ke':=ke.pivot hr li.hp
  unfold lem at h0 ⊢
  by_cases e:cnt=most
  ·rw [if_pos e] at h0;exact absurd h0 (by decide)
  ·rw [if_neg e] at h0 ⊢
   by_cases e2:b r=2*n
   ·rw [if_pos e2]
    refine⟨_,_,rfl,rfl,aOx ti' ke' lx (fun i hi=>?_) (cb.pr' hr hc)⟩
    by_cases e3:i=r
    ·rw [e3,aW]
     have:=cb.nc r hr
     omega
    ·rw [bY e3]
     have h5:=li.hb i hi
     have h6:b i≠2*n:=fun h=>e3 (cb.inj i r hi hr (by rw [h,e2]))
     omega
   ·rw [if_neg e2] at h0 ⊢
    have hlt:b r<2*n:=by have:=li.hb r hr;omega
    cases hs:sel (nL T r c) n (if b r<n then b r+n else b r-n) n 0 none with
    |none=>rw [hs] at h0;exact absurd h0 (show¬(15:Int)=0 by decide)
    |some r'=>
     rw [hs] at h0
     obtain⟨s1,s2⟩:=xV n 0 none r' (fun q hq=>by cases hq) hs
     have hm:=aBh n 0 none r' (fun q hq=>by cases hq) (fun _ k hk=>by omega) hs
     exact aJU f (nL T r c) (gI b r c) r' _ (cnt+1) (li.next e2 hs) ke' (lx.pivot (by omega) (aKt.1 s2) fun k hk hp=>hm k (by omega) (aKt.2 hp)) (cb.next hr hc hlt) h0
theorem aBQ {M:Nat→Nat→Rat} {q:Nat→Rat} {n i:Nat}:k5 M q n i (2*n)=-1:=by
 unfold k5;rw [if_neg (by omega),if_neg (by omega),if_pos rfl]
theorem aAF {M:Nat→Nat→Rat} {q:Nat→Rat} {n i:Nat}:k5 M q n i (2*n+1)=q i:=by
 unfold k5;rw [if_neg (by omega),if_neg (by omega),if_neg (by omega)]
theorem aOz {q:Nat→Rat}:∀t i,ng q t i=true→∃k,i≤k∧k<i+t∧q k<0
 |0,i,h=>absurd h (by unfold ng;decide)
 |t+1,i,h=>by
  unfold ng at h
  by_cases e:(q i).num.sign<0
  ·refine⟨i,by omega,by omega,?_⟩
   rw [Int.sign_neg_iff,←Int.not_le,Rat.num_nonneg,Rat.not_le] at e;exact e
  ·rw [decide_eq_false e,bO] at h
   obtain⟨k,h1,h2,h3⟩:=aOz t (i+1) h
   exact⟨k,by omega,by omega,h3⟩
theorem aNA {q:Nat→Rat}:∀t i,ng q t i=false→∀k,i≤k→k<i+t→0≤q k
 |0,i,h,k,h1,h2=>by omega
 |t+1,i,h,k,h1,h2=>by
  unfold ng at h
  by_cases e:(q i).num.sign<0
  ·rw [decide_eq_true e,bT] at h;cases h
  ·rw [decide_eq_false e,bO] at h
   by_cases e2:k=i
   ·rw [Int.sign_neg_iff,←Int.not_le,Rat.num_nonneg] at e
    rw [e2];exact Decidable.not_not.1 e
   ·exact aNA t (i+1) h k (by omega) (by omega)
theorem aMl {M:Nat→Nat→Rat} {q:Nat→Rat} {n:Nat} (hneg:ng q n 0=true):LX n (nL (k5 M q n) (uX (k5 M q n) n n 0 0) (2*n)):=fun i hi=>by
 have hm:=aCd (n:=n) (T:=k5 M q n) n 0 0 (fun k hk=>by omega)
 generalize hr:uX (k5 M q n) n n 0 0=r at *
 have hrn:r<n:=by rw [←hr];exact aAc n 0 0 (aA6 hneg) (by omega)
 by_cases e:i=r
 ·unfold nn
  left
  obtain⟨k,_,k2,k3⟩:=aOz n 0 hneg
  have h1:=(hm k k2).head
  have e1:iV n 0=2*n+1:=rfl
  simp only [e1,aAF] at h1
  show 0<nL (k5 M q n) r (2*n) i (iV n 0)
  unfold nL
  rw [if_pos e,e1,aAF,aBQ]
  grind
 ·refine(hm i (by omega)).congr fun j=>?_
  unfold nL
  rw [if_neg e,aBQ,aBQ]
  grind
theorem aLV {n:Nat}:CB n (fun j=>j) (2*n):=
 ⟨fun i j _ _ e=>e,fun i hi=>by show i≠2*n;omega,fun h=>absurd h (Nat.lt_irrefl _),fun i j hi hj _=>by show j≠uC n i;unfold uC;rw [if_pos hi];omega⟩
theorem aLX {M:Nat→Nat→Rat} {q:Nat→Rat} {n most:Nat} (h0:(tN M q n most).2=0):∃z w,(tN M q n most).1.z=mp z n∧(tN M q n most).1.w=mp w n∧Sol M q n z w:=by
 unfold tN at h0 ⊢
 cases hneg:ng q n 0
 ·rw [hneg,bO] at h0
  rw [bO]
  refine⟨_,_,rfl,rfl,fun _ _=>Rat.le_refl,fun j hj=>aNA n 0 hneg j (by omega) (by omega),fun i hi=>?_,fun _ _=>Or.inl rfl⟩
  rw [nZ fun j _=>show M i j*z0 j=0 from Rat.mul_zero _,Rat.zero_add]
 ·rw [hneg,bT] at h0
  rw [bT]
  exact aJU _ _ _ _ _ _ (aFQ (aAc n 0 0 (aA6 hneg) (by omega))) (fun x hx=>hx) (aMl hneg) aLV h0
end Go.Proofs.YtcjdedkdoagifaaGreat
set_option linter.unusedVariables false
namespace Go.Proofs.YtcjdedkdoagifaaGreat
def psl (f:Nat→Rat):Nat→Nat→Prop
 |0,_=>False
 |t+1,j=>0<f j∨(f j=0∧psl f t (j+1))
theorem psl.congr {f g:Nat→Rat}:∀{t j:Nat},(∀k,f k=g k)→psl f t j→psl g t j
 |0,_,_,h=>h
 |t+1,j,e,h=>by
  unfold psl at h ⊢
  rw [←e j]
  exact h.imp id fun h=>⟨h.1,psl.congr e h.2⟩
theorem psl.add {f g:Nat→Rat}:∀{t j:Nat},psl f t j→nn g t j→psl (fun k=>f k+g k) t j
 |0,_,h,_=>h
 |t+1,j,h1,h2=>by
  unfold psl at h1 ⊢
  unfold nn at h2
  rcases h1 with h1|⟨h1,k1⟩<;>rcases h2 with h2|⟨h2,k2⟩
  ·left;grind
  ·left;grind
  ·left;grind
  ·right;exact⟨by grind,psl.add k1 k2⟩
theorem psl.mul {f:Nat→Rat} {a:Rat} (ha:0<a):∀{t j:Nat},psl f t j→psl (fun k=>a*f k) t j
 |0,_,h=>h
 |t+1,j,h=>by
  unfold psl at h ⊢
  rcases h with h|⟨h,k⟩
  ·left;exact Rat.mul_pos ha h
  ·right;exact⟨by rw [h,Rat.mul_zero],psl.mul ha k⟩
theorem psl.zero {f:Nat→Rat}:∀{t j:Nat},psl f t j→∃k,j≤k∧k<j+t∧f k≠0
 |0,_,h=>h.elim
 |t+1,j,h=>by
  unfold psl at h
  rcases h with h|⟨h,k⟩
  ·exact⟨j,by omega,by omega,by grind⟩
  ·obtain⟨k,h1,h2,h3⟩:=k.zero
   exact⟨k,by omega,by omega,h3⟩
theorem nn.strict {f:Nat→Rat}:∀{t j:Nat},nn f t j→(∃k,j≤k∧k<j+t∧f k≠0)→psl f t j
 |0,_,_,⟨k,h1,h2,_⟩=>by omega
 |t+1,j,h,⟨k,h1,h2,h3⟩=>by
  unfold nn at h
  unfold psl
  rcases h with h|⟨h,h'⟩
  ·exact Or.inl h
  ·refine Or.inr ⟨h,h'.strict ⟨k,?_,by omega,h3⟩⟩
   by_cases e:k=j
   ·subst e;exact absurd h h3
   ·omega
def mem (n:Nat) (b:Nat→Nat) (v:Nat):Prop:=∃i,i<n∧b i=v
structure SI (n:Nat) (Z T:Nat→Nat→Rat) (b:Nat→Nat) (c:Nat):Prop where
 ti:TI n (2*n+2) Z T b
 ke:KE n (2*n+2) Z T
 sp:∃F:Nat→Nat→Rat,∀i k,i<n→k<2*n+2→Z i k=sm (fun j=>F i j*T j k) n
 id:∀i j,i<n→j<n→Z i j=if i=j then 1 else 0
 lx:LX n T
 cb:CB n b c
 hb:∀i,i<n→b i≤2*n
 hc:c<2*n
theorem SI.inj {n:Nat} {Z T:Nat→Nat→Rat} {b:Nat→Nat} {c:Nat} (h:SI n Z T b c):∀i j,i<n→j<n→b i=b j→i=j:=h.cb.inj
theorem SI.pos {n:Nat} {Z T:Nat→Nat→Rat} {b:Nat→Nat} {c:Nat} (h:SI n Z T b c) {i:Nat} (hi:i<n):psl (fun j=>T i (iV n j)) (n+1) 0:=by
 refine(h.lx i hi).strict ?_
 refine Classical.byContradiction fun hno=>?_
 have zero:∀k,k<n→T i k=0:=fun k hk=>by
  refine Classical.byContradiction fun h1=>hno ⟨k+1,by omega,by omega,?_⟩
  unfold iV;rw [if_neg (by omega),show k+1-1=k by omega];exact h1
 obtain⟨E,hE⟩:=h.ti.ex
 have hE0:∀k,k<n→E i k=0:=fun k hk=>by
  have h1:=hE i k hi (by omega)
  rw [zero k hk,xE,rW hk fun j hj hne=>by rw [h.id j k hj hk,if_neg hne,Rat.zero_mul],h.id k k hk hk,if_pos rfl,Rat.one_mul] at h1
  exact h1.symm
 have h2:=hE i (b i) hi (h.ti.lt i hi)
 rw [h.ti.un i i hi hi,if_pos rfl,xE,nZ fun j hj=>by rw [hE0 j hj,Rat.mul_zero]] at h2
 exact absurd h2 (by decide)
theorem SI.row {n:Nat} {Z T T':Nat→Nat→Rat} {b b':Nat→Nat} {c c':Nat} (h:SI n Z T b c) (h':SI n Z T' b' c') (hm:∀v,mem n b v↔mem n b' v) {i j:Nat} (hi:i<n) (hj:j<n) (e:b i=b' j) {k:Nat} (hk:k<2*n+2):T i k=T' j k:=by
 obtain⟨E,hE⟩:=h'.ti.ex
 obtain⟨F,hF⟩:=h.sp
 let g:Nat→Rat:=fun m=>sm (fun l=>E j l*F l m) n
 have hg:∀k,k<2*n+2→T' j k=sm (fun m=>g m*T m k) n:=fun k hk=>by
  rw [hE j k hj hk,xE]
  have e1:sm (fun l=>Z l k*E j l) n=sm (fun l=>sm (fun m=>E j l*F l m*T m k) n) n:=bJ fun l hl=>by
   rw [hF l k hl hk,Rat.mul_comm,←sF]
   exact bJ fun m _=>by grind
  rw [e1,aA3]
  refine bJ fun m _=>?_
  show _=sm (fun l=>E j l*F l m) n*T m k
  rw [Rat.mul_comm,←sF]
  exact bJ fun l _=>by grind
 have gd:∀m,m<n→g m=if m=i then 1 else 0:=fun m hmn=>by
  have h1:=hg (b m) (h.ti.lt m hmn)
  rw [rW hmn fun m' hm' hne=>by rw [h.ti.un m' m hm' hmn,if_neg hne,Rat.mul_zero],h.ti.un m m hmn hmn,if_pos rfl,Rat.mul_one] at h1
  obtain⟨j',hj',e'⟩:=(hm (b m)).1 ⟨m,hmn,rfl⟩
  rw [←h1,←e',h'.ti.un j j' hj hj']
  by_cases e2:m=i
  ·subst e2
   rw [if_pos rfl,if_pos (h'.inj j j' hj hj' (by rw [←e,e']))]
  ·rw [if_neg e2,if_neg fun e3=>e2 (h.inj m i hmn hi (by rw [e,e3,e']))]
 rw [hg k hk,rW hi fun m hmn hne=>by rw [gd m hmn,if_neg hne,Rat.zero_mul],gd i hi,if_pos rfl,Rat.one_mul]
def yE (n:Nat) (T:Nat→Nat→Rat) (x r:Nat):Prop:=0<T r x∧∀k,k<n→0<T k x→aCF T n x k r
theorem aHn {n w r c:Nat} {Z T:Nat→Nat→Rat} (h:∃F:Nat→Nat→Rat,∀i k,i<n→k<w→Z i k=sm (fun j=>F i j*T j k) n) (hr:r<n) (hp:T r c≠0):∃F:Nat→Nat→Rat,∀i k,i<n→k<w→Z i k=sm (fun j=>F i j*nL T r c j k) n:=by
 obtain⟨F,hF⟩:=h
 refine⟨fun i j=>if j=r then sm (fun l=>F i l*T l c) n else F i j,fun i k hi hk=>?_⟩
 rw [hF i k hi hk]
 have e:∀j,F i j*T j k=(if j=r then F i j*T j k-F i j*T j c*(T r k/T r c) else F i j*T j k-F i j*T j c*(T r k/T r c))+(T r k/T r c)*(F i j*T j c):=fun j=>by split<;>grind
 have e1:sm (fun j=>F i j*T j k) n=sm (fun j=>F i j*T j k-(T r k/T r c)*(F i j*T j c)) n+(T r k/T r c)*sm (fun l=>F i l*T l c) n:=by
  rw [aA1];grind
 have e2:sm (fun j=>(if j=r then sm (fun l=>F i l*T l c) n else F i j)*nL T r c j k) n=sm (fun j=>(F i j*T j k-(T r k/T r c)*(F i j*T j c))+(if j=r then(T r k/T r c)*sm (fun l=>F i l*T l c) n else 0)) n:=bJ fun j hj=>by
  unfold nL
  by_cases e3:j=r
  ·subst e3
   rw [if_pos rfl,if_pos rfl,if_pos rfl];grind
  ·rw [if_neg e3,if_neg e3,if_neg e3];grind
 rw [e1,e2,yO]
 congr 1
 rw [rW hr fun j hj hne=>if_neg hne,if_pos rfl]
theorem SI.next {n r c:Nat} {Z T:Nat→Nat→Rat} {b:Nat→Nat} (h:SI n Z T b c) (hr:r<n) (hl:yE n T c r) (hx:b r<2*n):SI n Z (nL T r c) (gI b r c) (uC n (b r)):=by
 have hc:=h.hc
 have hp:T r c≠0:=by have:=hl.1;grind
 exact⟨h.ti.pivot hr (by omega) hp,h.ke.pivot hr hp,aHn h.sp hr hp,h.id,h.lx.pivot hr hl.1 hl.2,h.cb.next hr (by omega) hx,fun i hi=>by
  by_cases e:i=r
  ·rw [e,aW];omega
  ·rw [bY e];exact h.hb i hi,aGl hx⟩
theorem aGh {n r c:Nat} {b:Nat→Nat} (hi:∀i j,i<n→j<n→b i=b j→i=j) (hr:r<n) (hc:∀i,i<n→b i≠c) (v:Nat):mem n (gI b r c) v↔(v=c∨(mem n b v∧v≠b r)):=by
 constructor
 ·rintro⟨i,h1,h2⟩
  by_cases e:i=r
  ·rw [e,aW] at h2;exact Or.inl h2.symm
  ·rw [bY e] at h2
   exact Or.inr ⟨⟨i,h1,h2⟩,fun h3=>e (hi i r h1 hr (by rw [h2,h3]))⟩
 ·rintro(h|⟨⟨i,h1,h2⟩,h3⟩)
  ·exact⟨r,hr,by rw [aW,h]⟩
  ·have e:i≠r:=fun e=>h3 (by rw [←h2,e])
   exact⟨i,h1,by rw [bY e,h2]⟩
theorem aSF {n r c:Nat} {Z T:Nat→Nat→Rat} {b:Nat→Nat} (h:SI n Z T b c) (hr:r<n) (hl:yE n T c r):0<nL T r c r (b r)∧∀r',r'<n→yE n (nL T r c) (b r) r'→r'=r:=by
 have hp:=hl.1
 have u:∀i,i<n→T i (b r)=if i=r then 1 else 0:=fun i hi=>h.ti.un i r hi hr
 have hrr:nL T r c r (b r)=1/T r c:=by unfold nL;rw [if_pos rfl,u r hr,if_pos rfl]
 have hpos:0<nL T r c r (b r):=by rw [hrr,Rat.div_def,Rat.one_mul];exact Rat.inv_pos.2 hp
 refine⟨hpos,fun r' hr' hl'=>Classical.byContradiction fun hne=>?_⟩
 have h1:nL T r c r' (b r)=-(T r' c)/T r c:=by
  unfold nL;rw [if_neg hne,u r' hr',if_neg hne,u r hr,if_pos rfl];grind
 have h2:=hl'.1
 have h3:T r' c<0:=by
  refine Rat.not_le.1 fun h4=>?_
  rw [h1] at h2
  have:0≤T r' c*(1/T r c):=Rat.mul_nonneg h4 (by rw [Rat.div_def,Rat.one_mul];exact Rat.le_of_lt (Rat.inv_pos.2 hp))
  grind
 have m:0<T r c/ -(T r' c):=by rw [Rat.div_def];exact Rat.mul_pos hp (Rat.inv_pos.2 (by grind))
 have s:=((h.pos hr').mul m).add (hl'.2 r hr hpos)
 obtain⟨k,_,_,hk⟩:=s.zero
 refine hk ?_
 rw [hrr,h1]
 unfold nL
 rw [if_pos rfl,if_neg hne]
 grind
end Go.Proofs.YtcjdedkdoagifaaGreat
set_option linter.unusedVariables false
namespace Go.Proofs.YtcjdedkdoagifaaGreat
theorem psl.nn {f:Nat→Rat}:∀{t j:Nat},psl f t j→nn f t j
 |0,_,h=>h.elim
 |t+1,j,h=>by
  unfold psl at h
  unfold Go.Proofs.YtcjdedkdoagifaaGreat.nn
  exact h.imp id fun h=>⟨h.1,h.2.nn⟩
theorem nn.congr_le {f g:Nat→Rat}:∀{t j:Nat},(∀k,k<j+t→f k=g k)→nn f t j→nn g t j
 |0,_,_,_=>trivial
 |t+1,j,e,h=>by
  unfold Go.Proofs.YtcjdedkdoagifaaGreat.nn at h ⊢
  rw [←e j (by omega)]
  exact h.imp id fun h=>⟨h.1,nn.congr_le (fun k hk=>e k (by omega)) h.2⟩
theorem aJf {f:Nat→Rat} (h:∀k,f k=0):∀t j,nn f t j
 |0,_=>trivial
 |t+1,j=>Or.inr ⟨h j,aJf h t (j+1)⟩
theorem aII {n r c:Nat} {Z T:Nat→Nat→Rat} {b:Nat→Nat} (h:SI n Z T b c) (hr:r<n) (hl:yE n T c r):yE n (nL T r c) (b r) r:=by
 have hp:=hl.1
 have u:∀i,i<n→T i (b r)=if i=r then 1 else 0:=fun i hi=>h.ti.un i r hi hr
 have hrr:nL T r c r (b r)=1/T r c:=by unfold nL;rw [if_pos rfl,u r hr,if_pos rfl]
 refine⟨(aSF h hr hl).1,fun k hk hkp=>?_⟩
 unfold aCF
 by_cases e:k=r
 ·subst e;exact aJf (fun j=>by grind) _ _
 ·have h1:nL T r c k (b r)=-(T k c)/T r c:=by
   unfold nL;rw [if_neg e,u k hk,if_neg e,u r hr,if_pos rfl];grind
  have h3:T k c<0:=by
   refine Rat.not_le.1 fun h4=>?_
   rw [h1] at hkp
   have:0≤T k c*(1/T r c):=Rat.mul_nonneg h4 (by rw [Rat.div_def,Rat.one_mul];exact Rat.le_of_lt (Rat.inv_pos.2 hp))
   grind
  have m:0<T r c/ -(T k c):=by rw [Rat.div_def];exact Rat.mul_pos hp (Rat.inv_pos.2 (by grind))
  refine(((h.pos hk).mul m).nn).congr fun j=>?_
  rw [hrr,h1]
  unfold nL
  rw [if_pos rfl,if_neg e]
  grind
theorem aBJ {n:Nat} {Z T T':Nat→Nat→Rat} {b b':Nat→Nat} {c c' x r m:Nat} (h:SI n Z T b c) (h':SI n Z T' b' c') (hm:∀v,mem n b v↔mem n b' v) (hr:r<n) (hmn:m<n) (e:b' m=b r) (hx:x<2*n+2) (hl:yE n T x r):yE n T' x m:=by
 have row:∀i j,i<n→j<n→b i=b' j→∀k,k<2*n+2→T i k=T' j k:=fun i j hi hj e k hk=>h.row h' hm hi hj e hk
 refine⟨by rw [←row r m hr hmn e.symm x hx];exact hl.1,fun k hk hp=>?_⟩
 obtain⟨i,hi,e2⟩:=(hm (b' k)).2 ⟨k,hk,rfl⟩
 have hp2:0<T i x:=by rw [row i k hi hk e2 x hx];exact hp
 refine(hl.2 i hi hp2).congr_le fun j hj=>?_
 have hc:iV n j<2*n+2:=by unfold iV;split<;>omega
 rw [row i k hi hk e2 _ hc,row r m hr hmn e.symm _ hc,row i k hi hk e2 x hx,row r m hr hmn e.symm x hx]
structure Run (n:Nat) (Z:Nat→Nat→Rat) (TT:Nat→Nat→Nat→Rat) (BB:Nat→Nat→Nat) (CC:Nat→Nat) (N:Nat):Prop where
 si:∀k,k≤N→SI n Z (TT k) (BB k) (CC k)
 st:∀k,k<N→∃r,r<n∧yE n (TT k) (CC k) r∧BB k r<2*n∧TT (k+1)=nL (TT k) r (CC k)∧BB (k+1)=gI (BB k) r (CC k)∧CC (k+1)=uC n (BB k r)
 beg:∀i,i<n→TT 0 i (uC n (CC 0))≤0
section
variable {n N:Nat} {Z:Nat→Nat→Rat} {TT:Nat→Nat→Nat→Rat} {BB:Nat→Nat→Nat} {CC:Nat→Nat}
theorem Run.prev (h:Run n Z TT BB CC N) {k:Nat} (hk:k<N):∃r,r<n∧yE n (TT k) (CC k) r∧yE n (TT (k+1)) (uC n (CC (k+1))) r∧(∀r',r'<n→yE n (TT (k+1)) (uC n (CC (k+1))) r'→r'=r)∧BB (k+1) r=CC k∧BB k r=uC n (CC (k+1))∧uC n (CC (k+1))<2*n∧
  (∀v,mem n (BB k) v↔(v=uC n (CC (k+1))∨(mem n (BB (k+1)) v∧v≠CC k)))∧(∀v,mem n (BB (k+1)) v↔(v=CC k∨(mem n (BB k) v∧v≠uC n (CC (k+1))))):=by
 obtain⟨r,r1,r2,r3,r4,r5,r6⟩:=h.st k hk
 have hs:=h.si k (by omega)
 have e:uC n (CC (k+1))=BB k r:=by rw [r6,aBg r3]
 have hm:=aGh (v:=0) hs.inj r1 hs.cb.nc
 refine⟨r,r1,r2,?_,?_,by rw [r5,aW],e.symm,by rw [e];exact r3,fun v=>?_,fun v=>?_⟩
 ·rw [e,r4];exact aII hs r1 r2
 ·rw [e,r4];exact(aSF hs r1 r2).2
 ·rw [r5,aGh hs.inj r1 hs.cb.nc,e]
  constructor
  ·intro hv
   by_cases e2:v=BB k r
   ·exact Or.inl e2
   ·refine Or.inr ⟨Or.inr ⟨hv,e2⟩,fun e3=>?_⟩
    obtain⟨i,hi,hi2⟩:=hv
    exact hs.cb.nc i hi (by rw [hi2,e3])
  ·rintro(hv|⟨hv|hv,hv2⟩)
   ·exact⟨r,r1,hv.symm⟩
   ·exact absurd hv hv2
   ·exact hv.1
 ·rw [r5,aGh hs.inj r1 hs.cb.nc,e]
theorem Run.key (h:Run n Z TT BB CC N):∀i j,i<j→j≤N→CC i=CC j→(∀v,mem n (BB i) v↔mem n (BB j) v)→False
 |i,0,hij,_,_,_=>by omega
 |0,j+1,hij,hj,hc,hs=>by
  obtain⟨r,r1,_,r3,_,r5,_,r7,_⟩:=h.prev (show j<N by omega)
  obtain⟨m,m1,m2⟩:=(hs (BB (j+1) r)).2 ⟨r,r1,rfl⟩
  have l:=aBJ (h.si (j+1) hj) (h.si 0 (by omega)) (fun v=>(hs v).symm) r1 m1 m2 (x:=uC n (CC (j+1))) (by omega) r3
  rw [←hc] at l
  exact absurd l.1 (Rat.not_lt.2 (h.beg m m1))
 |i+1,j+1,hij,hj,hc,hs=>by
  obtain⟨r,r1,_,r3,_,r5,_,r7,r8,_⟩:=h.prev (show j<N by omega)
  obtain⟨q,q1,_,q3,q4,q5,_,_,q8,_⟩:=h.prev (show i<N by omega)
  obtain⟨m,m1,m2⟩:=(hs (BB (j+1) r)).2 ⟨r,r1,rfl⟩
  have l:=aBJ (h.si (j+1) hj) (h.si (i+1) (by omega)) (fun v=>(hs v).symm) r1 m1 m2 (x:=uC n (CC (j+1))) (by omega) r3
  rw [←hc] at l
  have e:=q4 m m1 l
  rw [e,q5,r5] at m2
  refine h.key i j (by omega) (by omega) m2 fun v=>?_
  rw [r8,q8,hs v,hc,m2]
theorem Run.turn (h:Run n Z TT BB CC N):∀g i j,j=i+g→i<j→j≤N→CC j=uC n (CC i)→(∀v,mem n (BB i) v↔mem n (BB j) v)→False
 |0,i,j,hg,hij,_,_,_=>by omega
 |1,i,j,hg,hij,hj,hc,hs=>by
  subst hg
  obtain⟨r,r1,r2,r3,r4,r5,r6,r7,r8,r9⟩:=h.prev (show i<N by omega)
  have h1:=(hs (CC i)).2 ((r9 (CC i)).2 (Or.inl rfl))
  obtain⟨m,m1,m2⟩:=h1
  exact(h.si i (by omega)).cb.nc m m1 m2
 |g+2,i,j,hg,hij,hj,hc,hs=>by
  obtain⟨j',rfl⟩:∃j',j=j'+1:=⟨j-1,by omega⟩
  obtain⟨r,r1,r2,r3,r4,r5,r6,r7,r8,r9⟩:=h.prev (show j'<N by omega)
  obtain⟨q,q1,q2,q3,q4,q5,q6,q7,q8,q9⟩:=h.prev (show i<N by omega)
  have hci:=(h.si i (by omega)).hc
  have ex:uC n (CC (j'+1))=CC i:=by rw [hc,aBg hci]
  rw [ex] at r3 r4 r6 r7 r8 r9
  obtain⟨m,m1,m2⟩:=(hs (BB i q)).1 ⟨q,q1,rfl⟩
  have l:=aBJ (h.si i (by omega)) (h.si (j'+1) hj) hs q1 m1 m2 (x:=CC i) (by omega) q2
  have e:=r4 m m1 l
  rw [e,r5,q6] at m2
  have hci1:=(h.si (i+1) (by omega)).hc
  have s2:∀v,mem n (BB (i+1)) v↔mem n (BB j') v:=fun v=>by rw [q9,r8,hs v,m2]
  by_cases e2:i+1=j'
  ·subst e2
   rcases aNr (n:=n) (x:=CC (i+1)) (by omega) with h1|h1
   ·exact h1 m2.symm
   ·omega
  ·exact h.turn g (i+1) j' (by omega) (by omega) (by omega) m2 s2
end
theorem pig:∀(n m:Nat) (f:Nat→Nat),(∀i,i<n→f i<m)→(∀i j,i<n→j<n→f i=f j→i=j)→n≤m
 |0,m,f,_,_=>Nat.zero_le _
 |n+1,m,f,h1,h2=>by
  have h3:=h1 n (by omega)
  have:=pig n (m-1) (fun i=>if f i<f n then f i else f i-1) (fun i hi=>by
   have a:=h1 i (by omega)
   have b:f i≠f n:=fun e=>by have:=h2 i n (by omega) (by omega) e;omega
   show(if f i<f n then f i else f i-1)<m-1
   split<;>omega) (fun i j hi hj e=>by
   have b:f i≠f n:=fun e=>by have:=h2 i n (by omega) (by omega) e;omega
   have c:f j≠f n:=fun e=>by have:=h2 j n (by omega) (by omega) e;omega
   refine h2 i j (by omega) (by omega) ?_
   have e':(if f i<f n then f i else f i-1)=(if f j<f n then f j else f j-1):=e
   split at e'<;>split at e'<;>omega)
  omega
def yT (n v:Nat):Nat:=if v<n then v else v-n
theorem aBK {n u v:Nat} (hu:u<2*n) (hv:v<2*n) (h:yT n u=yT n v):u=v∨u=uC n v:=by
 unfold yT at h;unfold uC
 split at h<;>split at h<;>split<;>omega
theorem aCT {n v:Nat} (h:v<2*n):yT n v<n:=by unfold yT;split<;>omega
theorem aNd {n:Nat} {Z T T':Nat→Nat→Rat} {b b':Nat→Nat} {c c':Nat} (h:SI n Z T b c) (h':SI n Z T' b' c') (hm:∀v,mem n b v↔mem n b' v):c'=c∨c'=uC n c:=by
 refine Classical.byContradiction fun hno=>?_
 have hc:=h.hc
 have hc':=h'.hc
 have hd:yT n c≠yT n c':=fun e=>hno (aBK hc' hc e.symm)
 have no':∀i,i<n→b i≠c'∧b i≠uC n c':=fun i hi=>by
  obtain⟨j,hj,e⟩:=(hm (b i)).1 ⟨i,hi,rfl⟩
  exact⟨fun e2=>h'.cb.nc j hj (by rw [e,e2]),fun e2=>h'.cb.np hc' j hj (by rw [e,e2])⟩
 let f:Nat→Nat:=fun i=>if b i=2*n then yT n c else yT n (b i)
 have lt:∀i,i<n→b i≠2*n→b i<2*n:=fun i hi hne=>by have:=h.hb i hi;omega
 have f1:∀i,i<n→f i<n:=fun i hi=>by
  show(if b i=2*n then yT n c else yT n (b i))<n
  by_cases e:b i=2*n
  ·rw [if_pos e];exact aCT hc
  ·rw [if_neg e];exact aCT (lt i hi e)
 have f2:∀i,i<n→f i≠yT n c':=fun i hi=>by
  show(if b i=2*n then yT n c else yT n (b i))≠yT n c'
  by_cases e:b i=2*n
  ·rw [if_pos e];exact hd
  ·rw [if_neg e]
   intro e2
   rcases aBK (lt i hi e) hc' e2 with h1|h1
   ·exact(no' i hi).1 h1
   ·exact(no' i hi).2 h1
 have f3:∀i j,i<n→j<n→f i=f j→i=j:=fun i j hi hj e=>by
  have e':(if b i=2*n then yT n c else yT n (b i))=(if b j=2*n then yT n c else yT n (b j)):=e
  by_cases e1:b i=2*n
  ·by_cases e2:b j=2*n
   ·exact h.inj i j hi hj (by rw [e1,e2])
   ·rw [if_pos e1,if_neg e2] at e'
    rcases aBK (lt j hj e2) hc e'.symm with h1|h1
    ·exact absurd h1 (h.cb.nc j hj)
    ·exact absurd h1 (h.cb.np hc j hj)
  ·by_cases e2:b j=2*n
   ·rw [if_neg e1,if_pos e2] at e'
    rcases aBK (lt i hi e1) hc e' with h1|h1
    ·exact absurd h1 (h.cb.nc i hi)
    ·exact absurd h1 (h.cb.np hc i hi)
   ·rw [if_neg e1,if_neg e2] at e'
    rcases aBK (lt i hi e1) (lt j hj e2) e' with h1|h1
    ·exact h.inj i j hi hj h1
    ·exact absurd h1 (h.cb.pr j i hj hi (lt j hj e2))
 have hq:=aCT hc'
 have:=pig n (n-1) (fun i=>if f i<yT n c' then f i else f i-1) (fun i hi=>by
  have a:=f1 i hi
  have b:=f2 i hi
  show(if f i<yT n c' then f i else f i-1)<n-1
  split<;>omega) (fun i j hi hj e=>by
  have a:=f2 i hi
  have b:=f2 j hj
  refine f3 i j hi hj ?_
  have e':(if f i<yT n c' then f i else f i-1)=(if f j<yT n c' then f j else f j-1):=e
  split at e'<;>split at e'<;>omega)
 omega
theorem Run.distinct {n N:Nat} {Z:Nat→Nat→Rat} {TT:Nat→Nat→Nat→Rat} {BB:Nat→Nat→Nat} {CC:Nat→Nat} (h:Run n Z TT BB CC N) {i j:Nat} (hij:i<j) (hj:j≤N) (hs:∀v,mem n (BB i) v↔mem n (BB j) v):False:=by
 rcases aNd (h.si i (by omega)) (h.si j hj) hs with e|e
 ·exact h.key i j hij hj e.symm hs
 ·exact h.turn (j-i) i j (by omega) hij hj e hs
open Classical in
noncomputable def dg (n:Nat) (b:Nat→Nat) (j:Nat):Nat:=if mem n b j then 1 else if mem n b (n+j) then 2 else 0
noncomputable def cde (n:Nat) (b:Nat→Nat):Nat→Nat
 |0=>0
 |j+1=>3*cde n b j+dg n b j
theorem aKo {n:Nat} {b:Nat→Nat} {j:Nat}:dg n b j≤2:=by unfold dg;split;omega;split<;>omega
theorem aMe {n:Nat} {b:Nat→Nat}:∀m,cde n b m<3^m
 |0=>Nat.one_pos
 |m+1=>by
  have:=aMe (n:=n) (b:=b) m
  have:=aKo (n:=n) (b:=b) (j:=m)
  show 3*cde n b m+dg n b m<3^(m+1)
  rw [Nat.pow_succ];omega
theorem aKm {n:Nat} {b:Nat→Nat} {j:Nat} (h0:dg n b j=0):∀m,j<m→cde n b m+1<3^m
 |0,h=>by omega
 |m+1,h=>by
  have h1:=aMe (n:=n) (b:=b) m
  have h2:=aKo (n:=n) (b:=b) (j:=m)
  show 3*cde n b m+dg n b m+1<3^(m+1)
  rw [Nat.pow_succ]
  by_cases e:j=m
  ·subst e;rw [h0];omega
  ·have:=aKm h0 m (by omega);omega
theorem aJ6 {n:Nat} {b b':Nat→Nat}:∀m,cde n b m=cde n b' m→∀j,j<m→dg n b j=dg n b' j
 |0,_,j,hj=>by omega
 |m+1,h,j,hj=>by
  have h1:=aKo (n:=n) (b:=b) (j:=m)
  have h2:=aKo (n:=n) (b:=b') (j:=m)
  have h3:3*cde n b m+dg n b m=3*cde n b' m+dg n b' m:=h
  by_cases e:j=m
  ·subst e;omega
  ·exact aJ6 m (by omega) j (by omega)
theorem SI.last {n:Nat} {Z T:Nat→Nat→Rat} {b:Nat→Nat} {c:Nat} (h:SI n Z T b c):mem n b (2*n):=by
 refine Classical.byContradiction fun hno=>?_
 have hc:=h.hc
 have lt:∀i,i<n→b i<2*n:=fun i hi=>by
  have:=h.hb i hi
  have:b i≠2*n:=fun e=>hno ⟨i,hi,e⟩
  omega
 have hq:=aCT hc
 have f2:∀i,i<n→yT n (b i)≠yT n c:=fun i hi e=>by
  rcases aBK (lt i hi) hc e with h1|h1
  ·exact h.cb.nc i hi h1
  ·exact h.cb.np hc i hi h1
 have:=pig n (n-1) (fun i=>if yT n (b i)<yT n c then yT n (b i) else yT n (b i)-1) (fun i hi=>by
  have a:=aCT (lt i hi)
  have b:=f2 i hi
  show(if yT n (_)<yT n c then _ else _)<n-1
  split<;>omega) (fun i j hi hj e=>by
  have a:=f2 i hi
  have b':=f2 j hj
  have e':(if yT n (b i)<yT n c then yT n (b i) else yT n (b i)-1)=(if yT n (b j)<yT n c then yT n (b j) else yT n (b j)-1):=e
  have e3:yT n (b i)=yT n (b j):=by split at e'<;>split at e'<;>omega
  rcases aBK (lt i hi) (lt j hj) e3 with h1|h1
  ·exact h.inj i j hi hj h1
  ·exact absurd h1 (h.cb.pr j i hj hi (lt j hj)))
 omega
theorem aQl {n:Nat} {b b':Nat→Nat} (hb:∀i,i<n→b i≤2*n) (hp:∀i j,i<n→j<n→b i<2*n→b j≠uC n (b i)) (hb':∀i,i<n→b' i≤2*n) (hp':∀i j,i<n→j<n→b' i<2*n→b' j≠uC n (b' i)) (h:∀j,j<n→dg n b j=dg n b' j) (hl:mem n b (2*n)↔mem n b' (2*n)) (v:Nat):mem n b v↔mem n b' v:=by
 have both:∀{b:Nat→Nat},(∀i j,i<n→j<n→b i<2*n→b j≠uC n (b i))→∀j,j<n→mem n b j→¬mem n b (n+j):=fun hp j hj h1 h2=>by
  obtain⟨i,i1,i2⟩:=h1
  obtain⟨k,k1,k2⟩:=h2
  refine hp i k i1 k1 (by omega) ?_
  rw [k2,i2];unfold uC;rw [if_pos hj];omega
 by_cases e1:v<n
 ·have:=h v e1
  unfold dg at this
  constructor
  ·intro h1;rw [if_pos h1] at this
   refine Classical.byContradiction fun h2=>?_
   rw [if_neg h2] at this;split at this<;>omega
  ·intro h1;rw [if_pos h1] at this
   refine Classical.byContradiction fun h2=>?_
   rw [if_neg h2] at this;split at this<;>omega
 ·by_cases e2:v<2*n
  ·obtain⟨j,rfl⟩:∃j,v=n+j:=⟨v-n,by omega⟩
   have hj:j<n:=by omega
   have:=h j hj
   unfold dg at this
   constructor
   ·intro h1
    rw [if_neg (fun h3=>both hp j hj h3 h1),if_pos h1] at this
    refine Classical.byContradiction fun h2=>?_
    rw [if_neg h2] at this;split at this<;>omega
   ·intro h1
    rw [if_neg (fun h3=>both hp' j hj h3 h1),if_pos h1] at this
    refine Classical.byContradiction fun h2=>?_
    rw [if_neg h2] at this;split at this<;>omega
  ·by_cases e3:v=2*n
   ·rw [e3];exact hl
   ·constructor
    ·rintro⟨i,i1,i2⟩;have:=hb i i1;omega
    ·rintro⟨i,i1,i2⟩;have:=hb' i i1;omega
theorem Run.short {n N:Nat} {Z:Nat→Nat→Rat} {TT:Nat→Nat→Nat→Rat} {BB:Nat→Nat→Nat} {CC:Nat→Nat} (h:Run n Z TT BB CC N):N+2≤3^n:=by
 have hc0:=(h.si 0 (by omega)).hc
 have lt:∀k,k<N+1→cde n (BB k) n<3^n-1:=fun k hk=>by
  have hs:=h.si k (by omega)
  have hc:=hs.hc
  have h0:dg n (BB k) (yT n (CC k))=0:=by
   have a1:¬mem n (BB k) (CC k):=fun⟨i,i1,i2⟩=>hs.cb.nc i i1 i2
   have a2:¬mem n (BB k) (uC n (CC k)):=fun⟨i,i1,i2⟩=>hs.cb.np hc i i1 i2
   unfold dg yT
   unfold uC at a2
   by_cases e:CC k<n
   ·rw [if_pos e] at a2 ⊢
    rw [if_neg a1,if_neg (by rw [Nat.add_comm];exact a2)]
   ·rw [if_neg e] at a2 ⊢
    rw [if_neg a2,if_neg (by rw [show n+(CC k-n)=CC k by omega];exact a1)]
  have:=aKm h0 n (aCT hc)
  omega
 have:=pig (N+1) (3^n-1) (fun k=>cde n (BB k) n) lt (fun i j hi hj e=>by
  have same:∀v,mem n (BB i) v↔mem n (BB j) v:=by
   have si:=h.si i (by omega)
   have sj:=h.si j (by omega)
   exact aQl si.hb si.cb.pr sj.hb sj.cb.pr (aJ6 n e) ⟨fun _=>sj.last,fun _=>si.last⟩
  rcases Nat.lt_trichotomy i j with h1|h1|h1
  ·exact(h.distinct h1 (by omega) same).elim
  ·exact h1
  ·exact(h.distinct h1 (by omega) fun v=>(same v).symm).elim)
 omega
end Go.Proofs.YtcjdedkdoagifaaGreat
set_option linter.unusedVariables false
namespace Go.Proofs.YtcjdedkdoagifaaGreat
/-- A state of the run. -/
structure SS where
 t:Nat→Nat→Rat
 b:Nat→Nat
 c:Nat
def aDU (n:Nat) (s:SS):SS:=
 match sel s.t n s.c n 0 none with
 |none=>s
 |some r=>⟨nL s.t r s.c,gI s.b r s.c,uC n (s.b r)⟩
def pA (n:Nat) (s:SS):Nat→SS
 |0=>s
 |k+1=>aDU n (pA n s k)
theorem aCD {n:Nat} {s:SS}:∀k,pA n (aDU n s) k=pA n s (k+1)
 |0=>rfl
 |k+1=>by
  show aDU n (pA n (aDU n s) k)=aDU n (pA n s (k+1))
  rw [aCD k]
def aNk (n:Nat) (s:SS):Prop:=∃r,sel s.t n s.c n 0 none=some r∧s.b r≠2*n
theorem aHC {n most:Nat}:∀f T b r c cnt,cnt+f=most+1→sel T n c n 0 none=some r→(lem n most f T b r c cnt).2=16→∀k,k+cnt<most→aNk n (pA n ⟨T,b,c⟩ k)
 |0,T,b,r,c,cnt,hf,hs,h,k,hk=>by omega
 |f+1,T,b,r,c,cnt,hf,hs,h,k,hk=>by
  unfold lem at h
  rw [if_neg (show¬cnt=most by omega)] at h
  by_cases e2:b r=2*n
  ·rw [if_pos e2] at h;exact absurd h (show¬(0:Int)=16 by decide)
  ·rw [if_neg e2] at h
   have e3:aDU n ⟨T,b,c⟩=⟨nL T r c,gI b r c,uC n (b r)⟩:=by unfold aDU;simp only [hs]
   cases k with
   |zero=>exact⟨r,hs,e2⟩
   |succ k=>
    rw [←aCD,e3]
    cases hs':sel (nL T r c) n (if b r<n then b r+n else b r-n) n 0 none with
    |none=>rw [hs'] at h;exact absurd h (show¬(15:Int)=16 by decide)
    |some r'=>
     rw [hs'] at h
     exact aHC f (nL T r c) (gI b r c) r' _ (cnt+1) (by omega) hs' h k (by omega)
theorem aKY {n c r:Nat} {T:Nat→Nat→Rat} (h:sel T n c n 0 none=some r):r<n∧yE n T c r:=by
 obtain⟨s1,s2⟩:=xV n 0 none r (fun q hq=>by cases hq) h
 have hm:=aBh n 0 none r (fun q hq=>by cases hq) (fun _ k hk=>by omega) h
 exact⟨by omega,aKt.1 s2,fun k hk hp=>hm k (by omega) (aKt.2 hp)⟩
theorem aH8 {n N:Nat} {Z:Nat→Nat→Rat} {s:SS} (hs:SI n Z s.t s.b s.c) (hb:∀i,i<n→s.t i (uC n s.c)≤0) (hg:∀k,k<N→aNk n (pA n s k)):Run n Z (fun k=>(pA n s k).t) (fun k=>(pA n s k).b) (fun k=>(pA n s k).c) N:=by
 have step:∀k,k<N→SI n Z (pA n s k).t (pA n s k).b (pA n s k).c→∃r,r<n∧yE n (pA n s k).t (pA n s k).c r∧(pA n s k).b r<2*n∧(pA n s (k+1)).t=nL (pA n s k).t r (pA n s k).c∧(pA n s (k+1)).b=gI (pA n s k).b r (pA n s k).c∧(pA n s (k+1)).c=uC n ((pA n s k).b r):=fun k hk h=>by
  obtain⟨r,r1,r2⟩:=hg k hk
  obtain⟨l1,l2⟩:=aKY r1
  have e:pA n s (k+1)=⟨nL (pA n s k).t r (pA n s k).c,gI (pA n s k).b r (pA n s k).c,uC n ((pA n s k).b r)⟩:=by
   show aDU n (pA n s k)=_
   unfold aDU;simp only [r1]
  have:=h.hb r l1
  exact⟨r,l1,l2,by omega,by rw [e],by rw [e],by rw [e]⟩
 have si:∀k,k≤N→SI n Z (pA n s k).t (pA n s k).b (pA n s k).c:=fun k=>by
  induction k with
  |zero=>intro _;exact hs
  |succ k ih=>
   intro hk
   have h:=ih (by omega)
   obtain⟨r,r1,r2,r3,r4,r5,r6⟩:=step k (by omega) h
   rw [r4,r5,r6]
   exact h.next r1 r2 r3
 exact⟨si,fun k hk=>step k hk (si k (by omega)),hb⟩
theorem aLj {M:Nat→Nat→Rat} {q:Nat→Rat} {n:Nat} (hneg:ng q n 0=true):SI n (k5 M q n) (nL (k5 M q n) (uX (k5 M q n) n n 0 0) (2*n)) (gI (fun j=>j) (uX (k5 M q n) n n 0 0) (2*n)) (uC n (uX (k5 M q n) n n 0 0))∧uX (k5 M q n) n n 0 0<n∧
  ∀i,i<n→nL (k5 M q n) (uX (k5 M q n) n n 0 0) (2*n) i (uC n (uC n (uX (k5 M q n) n n 0 0)))≤0:=by
 have hlx:=aMl (M:=M) hneg
 have hr:uX (k5 M q n) n n 0 0<n:=aAc n 0 0 (aA6 hneg) (by omega)
 generalize uX (k5 M q n) n n 0 0=r at *
 have hp:k5 M q n r (2*n)≠0:=by rw [aBQ];decide
 have one:∀i j,i<n→j<n→k5 M q n i j=if i=j then 1 else 0:=fun i j hi hj=>by unfold k5;rw [if_pos hj]
 refine⟨⟨aIx.pivot hr (by omega) hp,KE.pivot (fun x hx=>hx) hr hp,aHn ⟨fun i j=>if i=j then 1 else 0,fun i k hi hk=>?_⟩ hr hp,one,hlx,aLV.next hr (Nat.le_refl _) (by omega),fun i hi=>?_,aGl (by omega)⟩,hr,fun i hi=>?_⟩
 ·show k5 M q n i k=sm (fun j=>(if i=j then 1 else 0)*k5 M q n j k) n
  rw [rW hi fun j hj hne=>by rw [if_neg fun e=>hne e.symm,Rat.zero_mul],if_pos rfl,Rat.one_mul]
 ·by_cases e:i=r
  ·rw [e,aW];exact Nat.le_refl _
  ·rw [bY e];omega
 ·rw [aBg (by omega)]
  unfold nL
  rw [aBQ,aBQ,one r r hr hr,if_pos rfl,one i r hi hr]
  by_cases e:i=r
  ·rw [if_pos e];grind
  ·rw [if_neg e,if_neg e];grind
theorem aKI {M:Nat→Nat→Rat} {q:Nat→Rat} {n most:Nat} (hm:3^n≤most):(tN M q n most).2≠16:=by
 unfold tN
 cases hneg:ng q n 0
 ·rw [bO];exact show¬(0:Int)=16 by decide
 ·rw [bT]
  obtain⟨h1,h2,h3⟩:=aLj (M:=M) hneg
  have hn:=aA6 hneg
  have h3n:3≤3^n:=by
   calc 3=3^1:=rfl
    _≤3^n:=Nat.pow_le_pow_right (by decide) hn
  generalize hr:uX (k5 M q n) n n 0 0=r at *
  intro h
  unfold lem at h
  rw [if_neg (show¬0=most by omega),if_neg (show¬r=2*n by omega)] at h
  cases hs:sel (nL (k5 M q n) r (2*n)) n (if r<n then r+n else r-n) n 0 none with
  |none=>rw [hs] at h;exact absurd h (show¬(15:Int)=16 by decide)
  |some r'=>
   rw [hs] at h
   have hg:=aHC most (nL (k5 M q n) r (2*n)) (gI (fun j=>j) r (2*n)) r' _ (0+1) (by omega) hs h
   have run:=aH8 (N:=most-1) (s:=⟨nL (k5 M q n) r (2*n),gI (fun j=>j) r (2*n),uC n r⟩) h1 h3 (fun k hk=>hg k (by omega))
   have:=run.short
   omega
end Go.Proofs.YtcjdedkdoagifaaGreat
set_option linter.unusedVariables false
namespace Go.Proofs.YtcjdedkdoagifaaGreat
theorem aAS {T:Nat→Nat→Rat} {n c:Nat}:∀t i s,sel T n c t i s=none→s=none∧∀k,i≤k→k<i+t→¬0<(T k c).num.sign
 |0,i,s,h=>⟨h,fun k h1 h2=>by omega⟩
 |t+1,i,s,h=>by
  unfold sel at h
  by_cases hp:0<(T i c).num.sign
  ·rw [decide_eq_true hp,bT] at h
   cases s with
   |none=>have:=(aAS t (i+1) (some i) h).1;cases this
   |some p=>
    simp only at h
    cases hl:les T n i (T i c) p (T p c)
    ·rw [hl,bO] at h;have:=(aAS t (i+1) (some p) h).1;cases this
    ·rw [hl,bT] at h;have:=(aAS t (i+1) (some i) h).1;cases this
  ·rw [decide_eq_false hp,bO] at h
   obtain⟨h1,h2⟩:=aAS t (i+1) s h
   refine⟨h1,fun k hk1 hk2=>?_⟩
   by_cases e:k=i
   ·rw [e];exact hp
   ·exact h2 k (by omega) (by omega)
theorem aJz {n most:Nat}:∀f T b r c cnt,sel T n c n 0 none=some r→(lem n most f T b r c cnt).2=15→∃k,(∀j,j<k→aNk n (pA n ⟨T,b,c⟩ j))∧sel (pA n ⟨T,b,c⟩ k).t n (pA n ⟨T,b,c⟩ k).c n 0 none=none
 |0,T,b,r,c,cnt,hs,h=>absurd h (show¬(16:Int)=15 by decide)
 |f+1,T,b,r,c,cnt,hs,h=>by
  unfold lem at h
  by_cases e:cnt=most
  ·rw [if_pos e] at h;exact absurd h (show¬(16:Int)=15 by decide)
  ·rw [if_neg e] at h
   by_cases e2:b r=2*n
   ·rw [if_pos e2] at h;exact absurd h (show¬(0:Int)=15 by decide)
   ·rw [if_neg e2] at h
    have e3:aDU n ⟨T,b,c⟩=⟨nL T r c,gI b r c,uC n (b r)⟩:=by unfold aDU;simp only [hs]
    have first:aNk n (pA n ⟨T,b,c⟩ 0):=⟨r,hs,e2⟩
    cases hs':sel (nL T r c) n (if b r<n then b r+n else b r-n) n 0 none with
    |none=>
     refine⟨1,fun j hj=>by rw [show j=0 by omega];exact first,?_⟩
     have e4:pA n ⟨T,b,c⟩ 1=⟨nL T r c,gI b r c,uC n (b r)⟩:=e3
     rw [e4];exact hs'
    |some r'=>
     rw [hs'] at h
     obtain⟨k,k1,k2⟩:=aJz f (nL T r c) (gI b r c) r' _ (cnt+1) hs' h
     have e4:∀j,pA n ⟨nL T r c,gI b r c,uC n (b r)⟩ j=pA n ⟨T,b,c⟩ (j+1):=fun j=>by rw [←e3,aCD]
     refine⟨k+1,fun j hj=>?_,?_⟩
     ·cases j with
      |zero=>exact first
      |succ j=>rw [←e4];exact k1 j (by omega)
     ·rw [←e4];exact k2
def bX (T:Nat→Nat→Rat) (b:Nat→Nat) (n k m:Nat):Rat:=sm (fun i=>if b i=m then T i k else 0) n
theorem aL8 {n:Nat} {Z T:Nat→Nat→Rat} {b:Nat→Nat} {c k:Nat} (h:SI n Z T b c) {i:Nat} (hi:i<n):bX T b n k (b i)=T i k:=by
 unfold bX
 rw [rW hi fun j hj hne=>if_neg fun e=>hne (h.inj j i hj hi e),if_pos rfl]
theorem aC9 {n:Nat} {T:Nat→Nat→Rat} {b:Nat→Nat} {k m:Nat} (h:¬mem n b m):bX T b n k m=0:=by
 unfold bX
 exact nZ fun i hi=>if_neg fun e=>h ⟨i,hi,e⟩
theorem aKg {n:Nat} {Z T:Nat→Nat→Rat} {b:Nat→Nat} {c k:Nat} (h:SI n Z T b c) (hk:k<2*n+2) {i:Nat} (hi:i<n):sm (fun m=>T i m*(bX T b n k m-if m=k then 1 else 0)) (2*n+2)=0:=by
 have e1:sm (fun m=>T i m*(bX T b n k m-if m=k then 1 else 0)) (2*n+2)=sm (fun m=>T i m*bX T b n k m) (2*n+2)-1*sm (fun m=>if m=k then T i m else 0) (2*n+2):=by
  rw [←aA1]
  refine bJ fun m _=>?_
  by_cases e:m=k
  ·rw [if_pos e,if_pos e];grind
  ·rw [if_neg e,if_neg e];grind
 have e2:sm (fun m=>if m=k then T i m else 0) (2*n+2)=T i k:=by
  rw [rW hk fun m _ hne=>if_neg hne,if_pos rfl]
 have e3:sm (fun m=>T i m*bX T b n k m) (2*n+2)=sm (fun m=>sm (fun j=>if b j=m then T i m*T j k else 0) n) (2*n+2):=bJ fun m _=>by
  unfold bX
  rw [←sF]
  refine bJ fun j _=>?_
  by_cases e:b j=m
  ·rw [if_pos e,if_pos e]
  ·rw [if_neg e,if_neg e,Rat.mul_zero]
 have e4:sm (fun j=>sm (fun m=>if b j=m then T i m*T j k else 0) (2*n+2)) n=T i k:=by
  have:sm (fun j=>sm (fun m=>if b j=m then T i m*T j k else 0) (2*n+2)) n=sm (fun j=>T i (b j)*T j k) n:=bJ fun j hj=>by
   have:=h.ti.lt j hj
   rw [rW (p:=b j) (by omega) fun m _ hne=>if_neg fun e=>hne e.symm,if_pos rfl]
  rw [this,rW hi fun j hj hne=>by rw [h.ti.un i j hi hj,if_neg fun e=>hne e.symm,Rat.zero_mul],h.ti.un i i hi hi,if_pos rfl,Rat.one_mul]
 rw [e1,e2,e3,aA3,e4];grind
theorem aJN {M:Nat→Nat→Rat} {q x:Nat→Rat} {n i:Nat} (hi:i<n) (h:sm (fun k=>k5 M q n i k*x k) (2*n+2)=0):x i=sm (fun j=>M i j*x (n+j)) n+x (2*n)-q i*x (2*n+1):=by
 have e:2*n+2=(n+n)+2:=by omega
 rw [e,aA2,aA2] at h
 have e1:sm (fun k=>k5 M q n i k*x k) n=x i:=by
  have:k5 M q n i i=1:=by unfold k5;rw [if_pos hi,if_pos rfl]
  rw [rW hi fun k hk hne=>by unfold k5;rw [if_pos hk,if_neg fun e=>hne e.symm,Rat.zero_mul],this,Rat.one_mul]
 have e2:sm (fun j=>k5 M q n i (n+j)*x (n+j)) n=-(sm (fun j=>M i j*x (n+j)) n):=by
  rw [←aBN]
  refine bJ fun j hj=>?_
  unfold k5
  rw [if_neg (by omega),if_pos (by omega),show n+j-n=j by omega,Rat.neg_mul]
 have e3:sm (fun j=>k5 M q n i (n+n+j)*x (n+n+j)) 2=-(x (2*n))+q i*x (2*n+1):=by
  show 0+k5 M q n i (n+n+0)*x (n+n+0)+k5 M q n i (n+n+1)*x (n+n+1)=_
  rw [show n+n+0=2*n by omega,show n+n+1=2*n+1 by omega,aBQ,aAF]
  grind
 rw [e1,e2,e3] at h
 grind
structure PSD (M:Nat→Nat→Rat) (q:Nat→Rat) (n:Nat):Prop where
 nn:∀z:Nat→Rat,0≤sm (fun i=>z i*sm (fun j=>M i j*z j) n) n
 ker:∀z:Nat→Rat,sm (fun i=>z i*sm (fun j=>M i j*z j) n) n=0→(∀x:Nat→Rat,sm (fun i=>z i*sm (fun j=>M i j*x j) n) n=0)∧sm (fun i=>z i*q i) n=0
theorem psl.congr_lt {f g:Nat→Rat}:∀{t j:Nat},psl f t j→(∀k,k<j+t→f k=g k)→psl g t j
 |0,_,h,_=>h
 |t+1,j,h,e=>by
  unfold psl at h ⊢
  rw [←e j (by omega)]
  exact h.imp _root_.id fun h=>⟨h.1,h.2.congr_lt fun k hk=>e k (by omega)⟩
theorem psl.ex {f:Nat→Rat}:∀{t j:Nat},psl f t j→∃k,j≤k∧k<j+t∧0<f k
 |0,_,h=>h.elim
 |t+1,j,h=>by
  unfold psl at h
  rcases h with h|⟨_,h⟩
  ·exact⟨j,by omega,by omega,h⟩
  ·obtain⟨k,h1,h2,h3⟩:=h.ex
   exact⟨k,by omega,by omega,h3⟩
theorem aFX {f:Nat→Rat}:∀{n:Nat},(∀i,i<n→0≤f i)→sm f n=0→∀i,i<n→f i=0
 |0,_,_,i,hi=>by omega
 |n+1,h,e,i,hi=>by
  have h1:=wC (f:=f) (n:=n) fun i hi=>h i (by omega)
  have h2:=h n (by omega)
  have h3:sm f n+f n=0:=e
  by_cases e2:i=n
  ·rw [e2];grind
  ·exact aFX (f:=f) (n:=n) (fun i hi=>h i (by omega)) (by grind) i (by omega)
theorem aQf {M:Nat→Nat→Rat} {q:Nat→Rat} {n N:Nat} {TT:Nat→Nat→Nat→Rat} {BB:Nat→Nat→Nat} {CC:Nat→Nat} (hP:PSD M q n) (run:Run n (k5 M q n) TT BB CC N) {r:Nat} (hr:r<n) (hb0:∀v,mem n (BB 0) v↔(v=2*n∨(v<n∧v≠r))) (hc0:CC 0=uC n r) (hmin:∀k,k<n→nn (fun j=>k5 M q n k (iV n j)-k5 M q n r (iV n j)) (n+1) 0) (hno:∀i,i<n→¬0<TT N i (CC N)):False:=by
 have hs:=run.si N (Nat.le_refl _)
 have hc:=hs.hc
 generalize hT:TT N=T at *
 generalize hB:BB N=b at *
 generalize hC:CC N=c at *
 have hcb:¬mem n b c:=fun⟨i,i1,i2⟩=>hs.cb.nc i i1 i2
 have hcp:¬mem n b (uC n c):=fun⟨i,i1,i2⟩=>hs.cb.np hc i i1 i2
 have hpair:∀j,j<n→mem n b j→¬mem n b (n+j):=fun j hj h1 h2=>by
  obtain⟨i,i1,i2⟩:=h1
  obtain⟨k,k1,k2⟩:=h2
  refine hs.cb.pr i k i1 k1 (by omega) ?_
  rw [k2,i2];unfold uC;rw [if_pos hj];omega
 let y:Nat→Rat:=fun m=>(if m=c then 1 else 0)-bX T b n c m
 have ey:∀m,y m=(if m=c then 1 else 0)-bX T b n c m:=fun m=>rfl
 have y0:∀m,0≤y m:=fun m=>by
  rw [ey]
  by_cases e:mem n b m
  ·obtain⟨i,i1,i2⟩:=e
   rw [←i2,aL8 hs i1,if_neg (fun e=>hcb ⟨i,i1,e⟩)]
   have:=hno i i1
   grind
  ·rw [aC9 e];split<;>grind
 have ysup:∀m,y m≠0→m=c∨mem n b m:=fun m h=>Classical.byContradiction fun h1=>h (by
  rw [ey,aC9 (fun h2=>h1 (Or.inr h2)),if_neg (fun h2=>h1 (Or.inl h2))];grind)
 have yeq:∀i,i<n→y i=sm (fun j=>M i j*y (n+j)) n+y (2*n):=fun i hi=>by
  have h1:=aJN hi (hs.ke _ (fun i hi=>aKg hs (k:=c) (by omega) hi) i hi)
  have h2:sm (fun j=>M i j*(bX T b n c (n+j)-if n+j=c then 1 else 0)) n=-(sm (fun j=>M i j*y (n+j)) n):=by
   rw [←aBN];exact bJ fun j _=>by rw [ey];grind
  have h3:bX T b n c (2*n+1)=0:=aC9 (fun⟨i,i1,i2⟩=>by have:=hs.hb i i1;omega)
  rw [h2,h3,if_neg (show¬2*n+1=c by omega)] at h1
  rw [ey i,ey (2*n)]
  grind
 have X:∀k,k<2*n+2→(k<n∨k=2*n+1)→∀i,i<n→bX T b n k i=sm (fun j=>M i j*bX T b n k (n+j)) n+bX T b n k (2*n)+k5 M q n i k:=fun k hk hk2 i hi=>by
  have h1:=aJN hi (hs.ke _ (fun i hi=>aKg hs hk hi) i hi)
  have h2:sm (fun j=>M i j*(bX T b n k (n+j)-if n+j=k then 1 else 0)) n=sm (fun j=>M i j*bX T b n k (n+j)) n:=bJ fun j hj=>by
   rw [if_neg (show¬n+j=k by omega)];grind
  have h3:bX T b n k (2*n+1)=0:=aC9 (fun⟨i,i1,i2⟩=>by have:=hs.hb i i1;omega)
  rw [h2,h3,if_neg (show¬2*n=k by omega)] at h1
  rcases hk2 with hk2|hk2
  ·rw [if_neg (show¬2*n+1=k by omega)] at h1
   have:k5 M q n i k=if i=k then 1 else 0:=by unfold k5;rw [if_pos hk2]
   rw [this];grind
  ·subst hk2
   rw [if_pos rfl,if_neg (show¬i=2*n+1 by omega)] at h1
   rw [aAF];grind
 have cross:∀k,∀j,j<n→y (n+j)*bX T b n k j=0:=fun k j hj=>by
  by_cases e:mem n b j
  ·have:y (n+j)=0:=Classical.byContradiction fun h=>by
    rcases ysup _ h with h1|h1
    ·refine hcp ?_
     rw [←h1];unfold uC;rw [if_neg (by omega),show n+j-n=j by omega];exact e
    ·exact hpair j hj e h1
   rw [this,Rat.zero_mul]
  ·rw [aC9 e,Rat.mul_zero]
 have yy:∀j,j<n→y (n+j)*y j=0:=fun j hj=>by
  by_cases e:y (n+j)=0
  ·rw [e,Rat.zero_mul]
  ·have:y j=0:=Classical.byContradiction fun h=>by
    rcases ysup _ e with h1|h1
    ·rcases ysup _ h with h2|h2
     ·omega
     ·refine hcp ?_
      rw [←h1];unfold uC;rw [if_neg (by omega),show n+j-n=j by omega];exact h2
    ·rcases ysup _ h with h2|h2
     ·refine hcp ?_
      rw [←h2];unfold uC;rw [if_pos hj,Nat.add_comm];exact h1
     ·exact hpair j hj h2 h1
   rw [this,Rat.mul_zero]
 let z:Nat→Rat:=fun j=>y (n+j)
 have sumM:∀x:Nat→Rat,∀s:Rat,∀g:Nat→Rat,sm (fun i=>z i*(sm (fun j=>M i j*x j) n+s+g i)) n=sm (fun i=>z i*sm (fun j=>M i j*x j) n) n+s*sm z n+sm (fun i=>z i*g i) n:=fun x s g=>by
  rw [←sF,←yO,←yO]
  exact bJ fun i _=>by grind
 have s0:sm (fun i=>z i*sm (fun j=>M i j*z j) n) n+y (2*n)*sm z n=0:=by
  have h1:sm (fun i=>z i*y i) n=0:=nZ fun j hj=>yy j hj
  have h2:sm (fun i=>z i*y i) n=sm (fun i=>z i*(sm (fun j=>M i j*z j) n+y (2*n)+(fun _=>(0:Rat)) i)) n:=bJ fun i hi=>by
   rw [yeq i hi];show _=z i*(_+0);rw [Rat.add_zero]
  rw [h2,sumM,nZ (f:=fun i=>z i*(fun _=>(0:Rat)) i) fun i _=>Rat.mul_zero _,Rat.add_zero] at h1
  exact h1
 have z0:∀j,0≤z j:=fun j=>y0 _
 have sz:0≤sm z n:=wC fun i _=>z0 i
 have p1:=hP.nn z
 have p2:0≤y (2*n)*sm z n:=Rat.mul_nonneg (y0 _) sz
 have zero:sm (fun i=>z i*sm (fun j=>M i j*z j) n) n=0:=by grind
 obtain⟨k1,k2⟩:=hP.ker z zero
 obtain⟨i0,i01,i02⟩:=hs.last
 by_cases hσ:sm z n=0
 ·
  have hz:∀j,j<n→z j=0:=aFX (fun i _=>z0 i) hσ
  have yall:∀i,i<n→y i=y (2*n):=fun i hi=>by
   rw [yeq i hi,nZ fun j hj=>by rw [show y (n+j)=0 from hz j hj,Rat.mul_zero],Rat.zero_add]
  have yc:y c=1:=by rw [ey,if_pos rfl,aC9 hcb];grind
  have hcn:c<n:=Classical.byContradiction fun h=>by
   have:z (c-n)=0:=hz _ (by omega)
   have e:z (c-n)=y c:=by show y (n+(c-n))=y c;rw [show n+(c-n)=c by omega]
   rw [e,yc] at this;exact absurd this (by decide)
  have wb:∀i,i<n→i≠c→mem n b i:=fun i hi hne=>by
   rcases ysup i (by rw [yall i hi,←yall c hcn,yc];decide) with h|h
   ·exact absurd h hne
   ·exact h
  have zb:∀j,j<n→¬mem n b (n+j):=fun j hj h=>by
   by_cases e:j=c
   ·refine hcp ?_;unfold uC;rw [if_pos hcn,Nat.add_comm,←e];exact h
   ·exact hpair j hj (wb j hj e) h
  have same:∀v,mem n b v↔(v=2*n∨(v<n∧v≠c)):=fun v=>by
   constructor
   ·intro h
    by_cases e1:v<n
    ·exact Or.inr ⟨e1,fun e=>hcb (e▸h)⟩
    ·by_cases e2:v<2*n
     ·exact absurd (show mem n b (n+(v-n)) by rw [show n+(v-n)=v by omega];exact h) (zb (v-n) (by omega))
     ·obtain⟨i,i1,i2⟩:=h
      have:=hs.hb i i1
      exact Or.inl (by omega)
   ·rintro(h|⟨h1,h2⟩)
    ·rw [h];exact hs.last
    ·exact wb v h1 h2
  have diff:∀i,i<n→i≠c→psl (fun j=>k5 M q n i (iV n j)-k5 M q n c (iV n j)) (n+1) 0:=fun i hi hne=>by
   obtain⟨m,m1,m2⟩:=wb i hi hne
   refine(hs.pos m1).congr_lt fun j hj=>?_
   have hl:iV n j<n∨iV n j=2*n+1:=by unfold iV;split<;>omega
   have a1:=X (iV n j) (by omega) hl i hi
   have a2:=X (iV n j) (by omega) hl c hcn
   have zz:∀i',sm (fun j'=>M i' j'*bX T b n (iV n j) (n+j')) n=0:=fun i'=>nZ fun j' hj'=>by rw [aC9 (zb j' hj'),Rat.mul_zero]
   rw [zz,←m2,aL8 hs m1] at a1
   rw [zz,aC9 hcb] at a2
   rw [m2] at a1
   grind
  have hcr:c=r:=Classical.byContradiction fun hne=>by
   have h1:=(diff r hr (fun e=>hne e.symm)).add (hmin c hcn)
   obtain⟨k,_,_,h3⟩:=h1.zero
   exact h3 (by grind)
  by_cases hN:N=0
  ·subst hN
   rw [hC,hcr] at hc0
   unfold uC at hc0
   rw [if_pos hr] at hc0
   omega
  ·refine run.distinct (i:=0) (j:=N) (by omega) (Nat.le_refl _) fun v=>?_
   rw [hb0,hB,same,hcr]
 ·have hσ':0<sm z n:=by grind
  have h0:∀k,k<2*n+2→(k<n∨k=2*n+1)→T i0 k*sm z n+sm (fun i=>z i*k5 M q n i k) n=0:=fun k hk hk2=>by
   have h1:sm (fun i=>z i*bX T b n k i) n=0:=nZ fun j hj=>cross k j hj
   have h2:sm (fun i=>z i*bX T b n k i) n=sm (fun i=>z i*(sm (fun j=>M i j*bX T b n k (n+j)) n+bX T b n k (2*n)+k5 M q n i k)) n:=bJ fun i hi=>by rw [X k hk hk2 i hi]
   rw [h2,sumM (fun j=>bX T b n k (n+j)) (bX T b n k (2*n)) (fun i=>k5 M q n i k),k1,Rat.zero_add,←i02,aL8 hs i01] at h1
   exact h1
  obtain⟨j,_,j2,j3⟩:=(hs.pos i01).ex
  have hl:iV n j<n∨iV n j=2*n+1:=by unfold iV;split<;>omega
  have e:=h0 (iV n j) (by omega) hl
  rcases hl with hl|hl
  ·have e2:sm (fun i=>z i*k5 M q n i (iV n j)) n=z (iV n j):=by
    rw [rW hl fun i hi hne=>by unfold k5;rw [if_pos hl,if_neg hne,Rat.mul_zero]]
    unfold k5;rw [if_pos hl,if_pos rfl,Rat.mul_one]
   rw [e2] at e
   have:=Rat.mul_pos j3 hσ'
   have:=z0 (iV n j)
   grind
  ·rw [hl] at e j3
   have e2:sm (fun i=>z i*k5 M q n i (2*n+1)) n=0:=by
    rw [←k2];exact bJ fun i _=>by rw [aAF]
   rw [e2] at e
   have:=Rat.mul_pos j3 hσ'
   grind
end Go.Proofs.YtcjdedkdoagifaaGreat
set_option linter.unusedVariables false
namespace Go.Proofs.YtcjdedkdoagifaaGreat
/-- The first numbers, then zeros. -/
def tz (z:Nat→Rat) (k:Nat):Nat→Rat:=fun j=>if j<k then z j else 0
theorem aC8 {z:Nat→Rat} {k j:Nat} (h:j≠k):tz z (k+1) j=tz z k j:=by
 unfold tz
 by_cases e:j<k
 ·rw [if_pos e,if_pos (by omega)]
 ·rw [if_neg e,if_neg (by omega)]
theorem aKn {z:Nat→Rat} {k j:Nat} (h:j=k):tz z (k+1) j=z k:=by
 subst h;unfold tz;rw [if_pos (Nat.lt_succ_self _)]
theorem aCh {z:Nat→Rat} {k j:Nat} (h:k≤j):tz z k j=0:=by
 unfold tz;rw [if_neg (by omega)]
theorem aRe {z:Nat→Rat} {k C:Nat} {n:Nat} (hC:1≤C) (h:∀j,j<n→Bd C (z j)):∀j,j<n→Bd C (tz z k j):=fun j hj=>by
 unfold tz;split
 ·exact h j hj
 ·exact Bd.zero.mono hC
theorem aDd {v:List Rat} {l:List aA} {z:Nat→Rat} {k r r' q:Nat} (hq:vq v l r q) (hk:k=off v l r+q) (ne:r'≠r):pz v l (tz z (k+1)) r'=pz v l (tz z k) r':=by
 have e:∀q',vq v l r' q'→tz z (k+1) (off v l r'+q')=tz z k (off v l r'+q'):=fun q' h'=>aC8 fun e=>ne (aDs h' hq (by omega)).1
 have e0:tz z (k+1) (off v l r')=tz z k (off v l r'):=e 0 (.inl rfl)
 unfold pz
 rw [e0]
 by_cases ht:(gH l r').t.length=0
 ·rw [if_pos ht,if_pos ht]
 ·rw [if_neg ht,if_neg ht]
  by_cases hs:(rt (gH l r').t v).num.sign=0
  ·have hst:yX v (gH l r')=true:=by
    unfold yX;rw [decide_eq_true (show 0<(gH l r').t.length by omega),decide_eq_true hs];rfl
   rw [if_neg (fun h=>h hs),if_neg (fun h=>h hs),e 1 (.inr ⟨hst,by omega⟩),e 2 (.inr ⟨hst,by omega⟩)]
  ·rw [if_pos hs,if_pos hs]
theorem aPS {v:List Rat} {l:List aA} {z:Nat→Rat} {k r:Nat} (hk:k=off v l r):pz v l (tz z (k+1)) r=⟨z k,if(gH l r).t.length=0 then(pz v l (tz z k) r).f else(((-(rt (gH l r).t v).num.sign:Int):Rat)/((1:Int):Rat))*((gH l r).mu*z k)⟩:=by
 have e0:tz z (k+1) (off v l r)=z k:=aKn hk.symm
 have e1:tz z (k+1) (off v l r+1)=0:=aCh (by omega)
 have e2:tz z (k+1) (off v l r+2)=0:=aCh (by omega)
 unfold pz
 rw [e0,e1,e2]
 by_cases ht:(gH l r).t.length=0
 ·simp only [if_pos ht]
 ·simp only [if_neg ht]
  by_cases hs:(rt (gH l r).t v).num.sign=0
  ·have z:((-(0:Int):Int):Rat)/((1:Int):Rat)=0:=by decide+kernel
   rw [if_neg (fun h=>h hs),hs,z,Rat.zero_mul,Rat.sub_self]
  ·rw [if_pos hs]
theorem aFC {v:List Rat} {l:List aA} {z:Nat→Rat} {r:Nat} (h:yX v (gH l r)=true):pz v l z r=⟨z (off v l r),z (off v l r+1)-z (off v l r+2)⟩:=by
 obtain⟨s1,s2⟩:=aIF h
 unfold pz
 rw [if_neg s1,if_neg (fun h=>h s2)]
theorem aQE {v:List Rat} {l:List aA} {z:Nat→Rat} {k r:Nat} (h:yX v (gH l r)=true) (hk:k=off v l r+1):pz v l (tz z (k+1)) r=⟨(pz v l (tz z k) r).n,(pz v l (tz z k) r).f+z k⟩:=by
 rw [aFC h,aFC h,aC8 (show off v l r≠k by omega),aKn (show off v l r+1=k by omega),aCh (show k+1≤off v l r+2 by omega),aCh (show k≤off v l r+1 by omega),aCh (show k≤off v l r+2 by omega)]
 simp [Rat.sub_eq_add_neg,Rat.add_zero,Rat.neg_zero,Rat.zero_add]
theorem aP3 {v:List Rat} {l:List aA} {z:Nat→Rat} {k r:Nat} (h:yX v (gH l r)=true) (hk:k=off v l r+2):pz v l (tz z (k+1)) r=⟨(pz v l (tz z k) r).n,(pz v l (tz z k) r).f-z k⟩:=by
 rw [aFC h,aFC h,aC8 (show off v l r≠k by omega),aC8 (show off v l r+1≠k by omega),aKn (show off v l r+2=k by omega),aCh (show k≤off v l r+2 by omega)]
 simp [Rat.sub_eq_add_neg,Rat.add_zero,Rat.neg_zero]
theorem aQN {v:List Rat} {l:List aA} {z:Nat→Rat} {k r:Nat} (h:yX v (gH l r)=true) (hk:k=off v l r+3):pz v l (tz z (k+1)) r=pz v l (tz z k) r:=by
 rw [aFC h,aFC h,aC8 (show off v l r≠k by omega),aC8 (show off v l r+1≠k by omega),aC8 (show off v l r+2≠k by omega)]
theorem aGo {v:List Rat} {l:List aA} {z:Nat→Rat} {k r q:Nat} {P:Nat→aF} {x:aF} (hq:vq v l r q) (hk:k=off v l r+q) (hx:x=pz v l (tz z (k+1)) r) (hP:∀i,i≠r→P i=pz v l (tz z k) i):mp (gI P r x) l.length=mp (pz v l (tz z (k+1))) l.length:=bZ fun i _=>by
 by_cases e:i=r
 ·subst e;rw [aW,hx]
 ·rw [bY e,aDd hq hk e];exact hP i e
theorem aMF {d:List aG} {f v:List Rat} {l:List aA} {z:Nat→Rat} {C:Nat} {v10:aO×Int} (hv:vQ 64 v) (hl:RsC l) (hll:l.length≤100) (hz:∀j,j<off v l l.length→Bd C (z j)) (hC1:1≤C) (hC:C≤100000000) (h10:v10.1.z=mp z (off v l l.length)) {K:Nat} (hK:5000≤K):∀(t k fu:Nat),k+t=off v l l.length→t<fu→dC K d f v l ((yB v l l.length).map pu) v10 fu (mp (pz v l (tz z k)) l.length) (k:Int)=some (mp (pz v l (tz z (off v l l.length))) l.length)
 |0,k,fu,hi,hk=>by
  obtain⟨k',rfl,_⟩:=a8 hk
  have e:k=off v l l.length:=by omega
  rw [e]
  simp only [dC,tG,dF (show¬(off v l l.length:Int)<(off v l l.length:Int) by omega),bO]
 |t+1,k,fu,hi,hk=>by
  obtain⟨k',rfl,_⟩:=a8 hk
  have hkl:k<off v l l.length:=by omega
  have h4:=rI (v:=v) (l:=l) l.length
  obtain⟨r,q,h1,h2,h3⟩:=tI l.length k hkl
  have hq3:=vq3 h2
  have ih:=aMF (d:=d) (f:=f) hv hl hll hz hC1 hC h10 hK t (k+1) k' (by omega) (by omega)
  have hb:=aEW (aRe (k:=k) hC1 hz) hl r h1
  have hc:=hz k hkl
  have rU:=rdU (v:=v) (l:=l) h2 h1
  rw [←h3] at rU
  have st:∀x,nU (mp (pz v l (tz z k)) l.length) (r:Int) x=some (mp (gI (pz v l (tz z k)) r x) l.length):=fun x=>rX h1
  by_cases q0:q=0
  ·subst q0
   have hk0:k=off v l r:=h3
   have st2:∀x y,nU (mp (gI (pz v l (tz z k)) r x) l.length) (r:Int) y=some (mp (gI (gI (pz v l (tz z k)) r x) r y) l.length):=fun x y=>rX h1
   have rd2:∀x,bM (mp (gI (pz v l (tz z k)) r x) l.length) (r:Int)=some x:=fun x=>by rw [dV h1,aW]
   have p0':=aPS (z:=z) hk0
   by_cases ht:(gH l r).t.length=0
   ·rw [if_pos ht] at p0'
    have cA:=aGo (P:=pz v l (tz z k)) h2 h3 p0'.symm (fun i _=>rfl)
    simp only [dC,tG,dT (show(k:Int)<(off v l l.length:Int) by omega),bT,rU,oB,dV h1,Int.natCast_zero,qT (show(0:Int)=0 from rfl),h10,dV (f:=z) hkl,st,aBX h1,dF (show¬(0:Int)<((gH l r).t.length:Int) by omega),bO,mS (i:=k) (by omega),cA]
    exact ih
   ·rw [if_neg ht] at p0'
    have cA:=aGo (P:=gI (pz v l (tz z k)) r ⟨z k,(pz v l (tz z k) r).f⟩) h2 h3 p0'.symm (fun i hi=>bY hi)
    simp only [dC,tG,dT (show(k:Int)<(off v l l.length:Int) by omega),bT,rU,oB,dV h1,Int.natCast_zero,qT (show(0:Int)=0 from rfl),h10,dV (f:=z) hkl,st,aBX h1,dT (show(0:Int)<((gH l r).t.length:Int) by omega),aW,aD7 hv (hl _ (k8 h1)) hc (by omega) (show 13≤K by omega),st2,mS (i:=k) (by omega),cA]
    exact ih
  ·have hst:yX v (gH l r)=true:=by rcases h2 with h|h;exact absurd h q0;exact h.1
   by_cases q1:q=1
   ·subst q1
    have cA:=aGo (P:=pz v l (tz z k)) h2 h3 (aQE (z:=z) hst h3).symm (fun i _=>rfl)
    simp only [dC,tG,dT (show(k:Int)<(off v l l.length:Int) by omega),bT,rU,oB,dV h1,Int.natCast_one,qF (show(1:Int)≠0 by omega),qT (show(1:Int)=1 from rfl),bO,h10,dV (f:=z) hkl,wK hb.2 hc (by omega) (by omega),st,mS (i:=k) (by omega),cA]
    exact ih
   ·by_cases q2:q=2
    ·subst q2
     have cA:=aGo (P:=pz v l (tz z k)) h2 h3 (aP3 (z:=z) hst h3).symm (fun i _=>rfl)
     simp only [dC,tG,dT (show(k:Int)<(off v l l.length:Int) by omega),bT,rU,oB,dV h1,qF (show((2:Nat):Int)≠0 by omega),qF (show((2:Nat):Int)≠1 by omega),qT (show((2:Nat):Int)=2 from rfl),bO,h10,dV (f:=z) hkl,aAg hb.2 hc (by omega) (by omega),st,mS (i:=k) (by omega),cA]
     exact ih
    ·have q3:q=3:=by omega
     subst q3
     have cA:mp (pz v l (tz z k)) l.length=mp (pz v l (tz z (k+1))) l.length:=bZ fun i _=>by
      by_cases e:i=r
      ·subst e;exact(aQN hst h3).symm
      ·exact(aDd h2 h3 e).symm
     simp only [dC,tG,dT (show(k:Int)<(off v l l.length:Int) by omega),bT,rU,oB,dV h1,qF (show((3:Nat):Int)≠0 by omega),qF (show((3:Nat):Int)≠1 by omega),qF (show((3:Nat):Int)≠2 by omega),bO,mS (i:=k) (by omega)]
     rw [cA]
     exact ih
end Go.Proofs.YtcjdedkdoagifaaGreat
set_option linter.unusedVariables false
namespace Go.Proofs.YtcjdedkdoagifaaGreat
theorem aP0.sbd {s:aK} (hs:aP0 s):SB s.dofs s.load s.v s.rows:=by
 have hn1:=hs.n1
 have hn4:=hs.n4
 have hll:=hs.ll
 have hvl:=hs.vl
 have hrl:=hs.rl
 exact⟨fun x hx=>(hs.dofs x hx).1,by omega,fun x hx=>(hs.load x hx).mono (by omega),by omega,fun x hx=>(hs.v x hx).mono (by omega),by omega,hs.mus,by omega⟩
end Go.Proofs.YtcjdedkdoagifaaGreat
set_option linter.unusedVariables false
namespace Go.Proofs.YtcjdedkdoagifaaGreat
theorem aLA {n B:Nat} {T:Nat→Nat→Rat} {b:Nat→Nat} (hT:Bdx n (2*n+2) B T) (hB:1≤B):∀i,i≤n→∀j,Bd B (szv T b n i j)
 |0,_,j=>Bd.zero.mono hB
 |i+1,h,j=>by
  have ih:=aLA (b:=b) hT hB i (by omega)
  unfold szv
  split
  ·exact ih j
  ·split
   ·by_cases e:j=b i-n
    ·subst e;rw [aW];exact hT i _ (by omega) (by omega)
    ·rw [bY e];exact ih j
   ·exact ih j
theorem aOS {n most B:Nat} {Z:Nat→Nat→Rat} (hZ:Sm n B Z) (hB:1≤B):∀(f:Nat) (T:Nat→Nat→Rat) (b:Nat→Nat) (r c cnt:Nat),LI n Z T b r c→(lem n most f T b r c cnt).2=0→(lem n most f T b r c cnt).1.z.length=n∧vQ B (lem n most f T b r c cnt).1.z
 |0,T,b,r,c,cnt,h,h0=>absurd (show(16:Int)=0 from h0) (by decide)
 |f+1,T,b,r,c,cnt,h,h0=>by
  unfold lem at h0 ⊢
  by_cases e:cnt=most
  ·rw [if_pos e] at h0;exact absurd h0 (by decide)
  ·rw [if_neg e] at h0 ⊢
   have hcw:=h.hc
   by_cases e2:b r=2*n
   ·rw [if_pos e2]
    have ti':=h.ti.pivot h.hr (show c<2*n+2 by omega) h.hp
    exact⟨bF _ _,aAR fun j _=>aLA (hZ _ _ ti') hB n (Nat.le_refl _) j⟩
   ·rw [if_neg e2] at h0 ⊢
    cases hs:sel (nL T r c) n (if b r<n then b r+n else b r-n) n 0 none with
    |none=>rw [hs] at h0;exact absurd (show(15:Int)=0 from h0) (by decide)
    |some r'=>
     rw [hs] at h0
     exact aOS hZ hB f _ _ _ _ _ (h.next e2 hs) h0
theorem aNw {M:Nat→Nat→Rat} {q:Nat→Rat} {n B most:Nat} (hZ:Sm n B (k5 M q n)) (hB:1≤B) (h0:(tN M q n most).2=0):(tN M q n most).1.z.length=n∧vQ B (tN M q n most).1.z:=by
 unfold tN at h0 ⊢
 by_cases hneg:ng q n 0=true
 ·rw [hneg,bT] at h0 ⊢
  exact aOS hZ hB _ _ _ _ _ _ (aFQ (aAc n 0 0 (aA6 hneg) (by omega))) h0
 ·have hneg':ng q n 0=false:=by cases h:ng q n 0 with|true=>exact absurd h hneg|false=>rfl
  rw [hneg',bO]
  exact⟨bF _ _,aAR fun j _=>Bd.zero.mono hB⟩
theorem pw4 {D k m:Nat} (h:D≤2^k) (e:4*k+56=m):64*(2^50*(D*D*D*D))≤2^m:=by
 have e2:=Nat.mul_le_mul (Nat.mul_le_mul (Nat.mul_le_mul h h) h) h
 rw [←Nat.pow_add,←Nat.pow_add,←Nat.pow_add] at e2
 have e3:=Nat.mul_le_mul (Nat.le_refl (2^6)) (Nat.mul_le_mul (Nat.le_refl (2^50)) e2)
 rw [←Nat.pow_add,←Nat.pow_add] at e3
 rw [show m=6+(50+(k+k+k+k)) by omega]
 exact e3
theorem pw8 {D k m:Nat} (h:D≤256^k) (e:8*k=m):D≤2^m:=by
 rw [show(256:Nat)=2^8 from rfl,←Nat.pow_mul,e] at h;exact h
theorem pwn {x k m n:Nat} (h:x≤2^k) (e:k*n<m):x^n<2^m:=by
 refine Nat.lt_of_le_of_lt (Nat.pow_le_pow_left h n) ?_
 rw [←Nat.pow_mul]
 exact Nat.pow_lt_pow_right (by decide) e
theorem aSf {D n sz:Nat} (hs:sz=100000) (hD:D≤256^149) (hn:n≤20):(64*(2^50*(D*D*D*D)))^n<2^sz:=
 pwn (pw4 (pw8 hD (m:=1192) (by decide)) (m:=4824) (by decide)) (by omega)
theorem aM4 {d:List aG} {f v:List Rat} {l:List aA} (h:ScB d f v l) (hm:l.length≤5) (h8:∀j,j<d.length→Bd 8 (oA f j)):Sm (off v l l.length) 100000 (k5 (Mf d v l) (qf d (oA f) v l) (off v l l.length)):=fun T b hT=>by
 obtain⟨D,hD,hle⟩:=aSz (f:=oA f) h.sb.sd h.n8 h8 h.sb.sl hm
 have hrb:RsB l:=fun r hr=>(h.sb.sl r hr).1
 have h4:=rI (v:=v) (l:=l) l.length
 have hp:(((D^4:Nat)):Rat)≠0:=by
  have:=Nat.pow_pos (n:=4) (show 0<D from hD.pos)
  intro e
  have e2:D^4=0:=by exact_mod_cast e
  omega
 obtain⟨k,hk⟩:∃k,k=100000:=⟨_,rfl⟩
 rw [←hk]
 exact hT.bd hp (fun i c hi _=>aQh hD hrb hm hi) (by omega) (aSf hk hle (by omega))
def aBm (d:List aG) (f v:List Rat) (l:List aA):List Rat×List aF×Int:=
 bif(tN (Mf d v l) (qf d (oA f) v l) (off v l l.length) 4096).2 != 0 then([],[],(tN (Mf d v l) (qf d (oA f) v l) (off v l l.length) 4096).2)
 else(mp (acc d (oA f) l (pz v l (oA (tN (Mf d v l) (qf d (oA f) v l) (off v l l.length) 4096).1.z))) d.length,mp (pz v l (oA (tN (Mf d v l) (qf d (oA f) v l) (off v l l.length) 4096).1.z)) l.length,0)
theorem aQJ {x:List Rat} {n:Nat} (h:x.length=n):tz (oA x) n=oA x:=funext fun j=>by
 unfold tz
 by_cases e:j<n
 ·rw [if_pos e]
 ·rw [if_neg e];unfold oA;rw [List.getD_eq_getElem?_getD,List.getElem?_eq_none (by omega)];rfl
theorem aKV {d:List aG} {f v:List Rat} {l:List aA} (h:ScB d f v l) (hf:aAV d f v l=true) (hm:l.length≤5) (h8:∀j,j<d.length→Bd 8 (oA f j)) {K:Nat} (hK:6000≤K):jZ K d f v l=some (aBm d f v l)∧tL K d f v l=some (aBm d f v l):=by
 have h4:=rI (v:=v) (l:=l) l.length
 have hn:=h.n8
 have hrb:RsB l:=fun r hr=>(h.sb.sl r hr).1
 have e1:=aHW h (show 5000≤K by omega)
 have e2:=aGP h hf (show 5000≤K by omega)
 have hq1:∀i,i<off v l l.length→Bd 100000 (qf d (oA f) v l i):=fun i hi=>by rw [←aF8 (n:=0)];exact h.vbd (z:=z0) (fun _=>Bd.zero) hi
 have hq:∀i,i<off v l l.length→Bd 300000 (qf d (oA f) v l i):=fun i hi=>(hq1 i hi).mono (by omega)
 have hM:Bdx (off v l l.length) (off v l l.length) 300000 (Mf d v l):=fun i c hi _=>by
  rw [←aLK (f:=oA f)]
  exact((h.vbd (z:=ek c) (fun _=>aKq) hi).sub (hq1 i hi)).mono (by omega)
 have hZ:=aM4 h hm h8
 have hZ3:Sm (off v l l.length) 300000 (k5 (Mf d v l) (qf d (oA f) v l) (off v l l.length)):=fun T b hT i c hi hc=>(hZ T b hT i c hi hc).mono (by omega)
 obtain⟨c1,c2⟩:=aKB (most:=4096) hM hq hZ3 (by omega) (show off v l l.length≤32 by omega) (by omega) (show 5000≤K by omega) (by omega)
 have u1:=aDa (d:=d) (f:=f) h.sb.sv hrb (show l.length≤1000 by omega) (show 2000≤K by omega)
 have u2:=xA h.sb.sv hrb (show l.length≤1000 by omega) (show 2000≤K by omega)
 have t1:((4096:Nat):Int)=4096:=rfl
 rw [t1] at c1 c2
 by_cases h0:(tN (Mf d v l) (qf d (oA f) v l) (off v l l.length) 4096).2=0
 ·obtain⟨z1,z2⟩:=aNw hZ (by omega) h0
  generalize hx:tN (Mf d v l) (qf d (oA f) v l) (off v l l.length) 4096=X at *
  have zb:∀j,j<off v l l.length→Bd 100000 (oA X.1.z j):=fun j hj=>z2 _ (wI (by omega))
  have zm:X.1.z=mp (oA X.1.z) (off v l l.length):=by rw [←z1];exact aMd _
  have pb:=aEW zb h.sb.sl
  have pl:=aMF (d:=d) (f:=f) (v10:=X) h.sb.sv h.sb.sl (show l.length≤100 by omega) zb (by omega) (by omega) zm (show 5000≤K by omega) (off v l l.length) 0 K (by omega) (by omega)
  rw [aQJ z1] at pl
  have p00:mp (pz v l (tz (oA X.1.z) 0)) l.length=mp (fun _=>(⟨0,0⟩:aF)) l.length:=bZ fun i _=>by
   rw [show tz (oA X.1.z) 0=z0 from funext fun j=>aCh (Nat.zero_le _)];exact aJZ
  rw [p00] at pl
  simp only [Int.natCast_zero] at pl
  have rp:=aEU h.sb.sv h.sb.sl zb (by omega) (show l.length≤1000 by omega) (show 5000≤K by omega)
  rw [←zm] at rp
  have hA:(2*100000+11+9)*24*l.length≤400000000:=Nat.le_trans (Nat.mul_le_mul_left _ hm) (by decide)
  have a1:=aGE (f0:=f) (v0:=v) h.sb.sd (by omega) h.fbd hrb h.ir (by omega) pb (by omega) hA (show 2000≤K by omega)
  have a2:=aJB h.sb.sd (by omega) h.fbd hrb h.ir (by omega) pb (by omega) hA (show 2000≤K by omega)
  rw [←h.fmp] at a1 a2
  unfold aBm
  rw [hx]
  constructor
  ·simp only [jZ,aJG h.sb (show 200≤K by omega),hf,oB,Bool.not_true,bO,u1,tG,dF (show¬(32:Int)<(off v l l.length:Int) by omega),e1,c1,nF h0,aBx (z:=(⟨0,0⟩:aF)) (n:=l.length) (by omega),pl,sB,a1]
  ·simp only [tL,aIk h.sb (show 200≤K by omega),hf,oB,Bool.not_true,bO,u2,aAM,dF (show¬(32:Int)<(off v l l.length:Int) by omega),e2,c2,nF h0,rp,a2]
 ·unfold aBm
  constructor
  ·simp only [jZ,aJG h.sb (show 200≤K by omega),hf,oB,Bool.not_true,bO,u1,tG,dF (show¬(32:Int)<(off v l l.length:Int) by omega),e1,c1,nT h0,bT]
  ·simp only [tL,aIk h.sb (show 200≤K by omega),hf,oB,Bool.not_true,bO,u2,aAM,dF (show¬(32:Int)<(off v l l.length:Int) by omega),e2,c2,nT h0,bT]
end Go.Proofs.YtcjdedkdoagifaaGreat
set_option linter.unusedVariables false
namespace Go.Proofs.YtcjdedkdoagifaaGreat
def zr:aA:=⟨0,0,0,0,0,[],[],0,0⟩
def more:Nat→List aA→List aA
 |0,l=>l
 |t+1,l=>more t (l++[zr])
end Go.Proofs.YtcjdedkdoagifaaGreat
set_option linter.unusedVariables false
namespace Go.Proofs.YtcjdedkdoagifaaGreat
end Go.Proofs.YtcjdedkdoagifaaGreat
set_option linter.unusedVariables false
namespace Go.Proofs.YtcjdedkdoagifaaGreat
/-- Terms of the first n places, in order. -/
def IO (n:Nat) (l:List aE):Prop:=InT n l∧l.Pairwise (fun a b=>a.dof<b.dof)
theorem IO.nil {n:Nat}:IO n []:=⟨fun t h=>absurd h List.not_mem_nil,List.Pairwise.nil⟩
theorem IO.up {n:Nat} {l:List aE} (h:IO n l):IO (n+1) l:=⟨fun t ht=>⟨(h.1 t ht).1,by have:=(h.1 t ht).2;omega⟩,h.2⟩
theorem IO.snoc {n:Nat} {l:List aE} {q:Rat} (h:IO n l):IO (n+1) (l++[⟨(n:Int),q⟩]):=by
 refine⟨fun t ht=>?_,List.pairwise_append.2 ⟨h.2,List.pairwise_singleton _ _,fun a ha b hb=>?_⟩⟩
 ·rcases List.mem_append.1 ht with h1|h1
  ·exact h.up.1 t h1
  ·rw [List.mem_singleton.1 h1];exact⟨by simp only;omega,by simp only;omega⟩
 ·rw [List.mem_singleton.1 hb];exact(h.1 a ha).2
def NT (n:Nat) (l:List aE):Prop:=TB l∧IO n l
def RN (n w:Nat) (r:aA):Prop:=RC r∧IO w r.j∧IO n r.t∧0≤r.mu
def RsN (n w:Nat) (l:List aA):Prop:=∀r∈l,RN n w r
theorem RsN.snoc {n w:Nat} {l:List aA} {r:aA} (h:RsN n w l) (hr:RN n w r):RsN n w (l++[r]):=fun x hx=>by
 rcases List.mem_append.1 hx with h1|h1
 ·exact h x h1
 ·rw [List.mem_singleton.1 h1];exact hr
theorem aCR {n:Nat} (hn:n≤12):∀(t i:Nat) (out:List aE) (v:Int),i+t=n→0≤v→v≤4000000000000→out.length≤i→(∀t∈out,Bd 8 t.k)→IO i out→∃r,NT n r∧∀K k,t<k→eF K (n:Int) k out v (i:Int)=some r
 |0,i,out,v,hi,h0,h1,hl,hb,hd=>⟨out,⟨⟨by omega,hb⟩,by rw [show n=i by omega];exact hd⟩,fun K k hk=>by
  obtain⟨k',rfl,_⟩:=a8 hk
  simp only [eF,dF (show¬(i:Int)<(n:Int) by omega),bO]⟩
 |t+1,i,out,v,hi,h0,h1,hl,hb,hd=>by
  have m7:=aC7 (a:=v) (m:=7) h0 (by omega)
  obtain⟨x,x1,x2,x3⟩:=tab7 m7.1 m7.2
  have m3:=aC7 (a:=v/7) (m:=3) (by omega) (by omega)
  have e1:wH v 7=some (v%7):=mW h0 (by omega)
  have e2:w4 v 7=some (v/7):=rV h0 (by omega) (by omega)
  have e3:wH (v/7) 3=some (v/7%3):=mW (by omega) (by omega)
  have e4:w4 (v/7) 3=some (v/7/3):=rV (by omega) (by omega) (by omega)
  have e5:aP (1+v/7%3)=some (1+v/7%3):=kM (by omega)
  by_cases hx:x=0
  ·obtain⟨r,r1,r2⟩:=aCR hn t (i+1) out (v/7/3) (by omega) (by omega) (by omega) (by omega) hb hd.up
   refine⟨r,r1,fun K k hk=>?_⟩
   obtain⟨k',rfl,_⟩:=a8 hk
   simp only [eF,dT (show(i:Int)<(n:Int) by omega),bT,e1,oB,x1,e2,nF hx,bO,e4,mS (i:=i) (by omega)]
   exact r2 K k' (by omega)
  ·obtain⟨q,q1,q2,q3⟩:=aCJ (k:=8) (p:=x) (q:=1+v/7%3) (by omega) (by omega) (by omega) (by omega)
   obtain⟨r,r1,r2⟩:=aCR hn t (i+1) (out++[⟨(i:Int),q⟩]) (v/7/3) (by omega) (by omega) (by omega) (by simp;omega) (fun t ht=>by
    rcases List.mem_append.1 ht with h|h
    ·exact hb t h
    ·rw [List.mem_singleton.1 h];exact q3) hd.snoc
   refine⟨r,r1,fun K k hk=>?_⟩
   obtain⟨k',rfl,_⟩:=a8 hk
   simp only [eF,dT (show(i:Int)<(n:Int) by omega),bT,e1,oB,x1,e2,nT hx,e3,e5,q1,apS (xs:=out) (x:=(⟨(i:Int),q⟩:aE)) (by omega),e4,mS (i:=i) (by omega)]
   exact r2 K k' (by omega)
theorem aD6 {n:Nat} (hn:n≤12) {v:Int} (h0:0≤v) (h1:v≤4000000000000):∃r,NT n r∧∀K,n<K→d6 K v (n:Int)=some r:=by
 obtain⟨r,r1,r2⟩:=aCR hn n 0 [] v (by omega) h0 h1 (by simp) (fun t h=>absurd h List.not_mem_nil) IO.nil
 refine⟨r,r1,fun K hK=>?_⟩
 have:=r2 K K hK
 simp only [Int.natCast_zero] at this
 simp only [d6,this,oB,nX]
theorem aMT {p q:Int} (hp:0≤p) (hq:0<q):(0:Rat)≤(p:Rat)/(q:Rat):=by
 rw [←Rat.divInt_eq_div]
 exact(Rat.divInt_nonneg_iff_of_pos_right hq).2 hp
theorem aL1 {q:Rat} (h:0≤q):0≤q.num.sign:=by
 have h2:=Rat.num_nonneg.2 h
 rcases Int.lt_or_eq_of_le h2 with h|h
 ·rw [Int.sign_eq_one_of_pos h];omega
 ·rw [←h];decide
theorem aQm {q:Rat} (h:0≤q) (h0:q≠0):0<q.num.sign:=by
 have h1:=aL1 h
 have h2:q.num.sign≠0:=fun e=>h0 (aDh.1 e)
 omega
theorem aFw {l:List Int} (hl:aHV l) (i:Nat) (hi:i≤10) (n:Nat) (hn:1≤n∧n≤4):∃v129 v137 v145 v151 q r131 r139 r197,
  bH l (9+3*(i:Int)) 1099511627776=some v129∧bH l (10+3*(i:Int)) 1099511627776=some v137∧bH l (11+3*(i:Int)) 5=some v145∧bH l (11+3*(i:Int)) 3=some v151∧aP (1+v151)=some (1+v151)∧qof v145 (1+v151)=some q∧Bd 8 q∧0≤v129∧v129≤4000000000000∧NT n r131∧NT n r139∧NT (n-1) r197∧0≤q∧
  ∀K,n<K→d6 K v129 (n:Int)=some r131∧d6 K v137 (n:Int)=some r139∧d6 K v129 ((n:Int)-1)=some r197:=by
 obtain⟨v,v1,v2,v3⟩:=aBC hl (9+3*(i:Int)) (m:=1099511627776) (by omega)
 obtain⟨w,w1,w2,w3⟩:=aBC hl (10+3*(i:Int)) (m:=1099511627776) (by omega)
 obtain⟨x,x1,x2,x3⟩:=aBC hl (11+3*(i:Int)) (m:=5) (by omega)
 obtain⟨y,y1,y2,y3⟩:=aBC hl (11+3*(i:Int)) (m:=3) (by omega)
 obtain⟨q,q1,q2,q3⟩:=aCJ (k:=8) (p:=x) (q:=1+y) (by omega) (by omega) (by omega) (by omega)
 obtain⟨a,a1,a2⟩:=aD6 (n:=n) (v:=v) (by omega) v2 (by omega)
 obtain⟨b,b1,b2⟩:=aD6 (n:=n) (v:=w) (by omega) w2 (by omega)
 obtain⟨c,c1,c2⟩:=aD6 (n:=n-1) (v:=v) (by omega) v2 (by omega)
 refine⟨v,w,x,y,q,a,b,c,v1,w1,x1,y1,kM (by omega),q1,q3,v2,by omega,a1,b1,c1,by rw [q2];exact aMT x2 (by omega),fun K hK=>⟨a2 K hK,b2 K hK,?_⟩⟩
 have:=c2 K (by omega)
 rw [show((n-1:Nat):Int)=(n:Int)-1 by omega] at this
 exact this
theorem aE2 {l:List Int} (hl:aHV l) {n:Nat} (hn:n≤4):∀(t i:Nat) (a b:List Rat) (d:List aG),i+t=n→a.length=i→b.length=i→d.length=i→vQ 8 a→vQ 4 b→aP8 d→(∀x∈a,x=0)→d.all aCH=true→
  ∃a' b' d',a'.length=n∧b'.length=n∧d'.length=n∧vQ 8 a'∧vQ 4 b'∧aP8 d'∧(∀x∈a',x=0)∧d'.all aCH=true∧∀K k,t<k→gO K l (n:Int) k a b d (i:Int)=some (a',b',d')
 |0,i,a,b,d,hi,h1,h2,h3,h4,h5,h6,h7,h8=>⟨a,b,d,by omega,by omega,by omega,h4,h5,h6,h7,h8,fun K k hk=>by
  obtain⟨k',rfl,_⟩:=a8 hk
  simp only [gO,dF (show¬(i:Int)<(n:Int) by omega),bO]⟩
 |t+1,i,a,b,d,hi,h1,h2,h3,h4,h5,h6,h7,h8=>by
  obtain⟨v,v1,v2,v3⟩:=aBC hl (1+(i:Int)) (m:=1073741824) (by omega)
  have m3:=aC7 (a:=v) (m:=3) v2 (by omega)
  have m4:=aC7 (a:=v/3) (m:=4) (by omega) (by omega)
  have m13:=aC7 (a:=v/12) (m:=13) (by omega) (by omega)
  have m33:=aC7 (a:=v/156) (m:=3) (by omega) (by omega)
  have e0:aP (1+(i:Int))=some (1+(i:Int)):=kM (by omega)
  have e1:wH v 3=some (v%3):=mW v2 (by omega)
  have e2:aP (1+v%3)=some (1+v%3):=kM (by omega)
  have e3:w4 v 3=some (v/3):=rV v2 (by omega) (by omega)
  have e4:wH (v/3) 4=some (v/3%4):=mW (by omega) (by omega)
  have e5:aP (1+v/3%4)=some (1+v/3%4):=kM (by omega)
  obtain⟨q,q1,q2,q3⟩:=aCJ (k:=8) (p:=1+v%3) (q:=1+v/3%4) (by omega) (by omega) (by omega) (by omega)
  have e6:w4 v 12=some (v/12):=rV v2 (by omega) (by omega)
  have e7:wH (v/12) 13=some (v/12%13):=mW (by omega) (by omega)
  have e8:aP (v/12%13-6)=some (v/12%13-6):=kM (by omega)
  have e9:w4 v 156=some (v/156):=rV v2 (by omega) (by omega)
  have e10:wH (v/156) 3=some (v/156%3):=mW (by omega) (by omega)
  have e11:aP (1+v/156%3)=some (1+v/156%3):=kM (by omega)
  obtain⟨p,p1,p2,p3⟩:=aCJ (k:=4) (p:=v/12%13-6) (q:=1+v/156%3) (by omega) (by omega) (by omega) (by omega)
  have hq:aPt ⟨q,0,false,0,0⟩:=⟨q3,by rw [q2];exact aQi (by omega) (by omega),Bd.zero.mono (by omega)⟩
  obtain⟨a',b',d',g1,g2,g3,g4,g5,g6,g8,g9,g7⟩:=aE2 hl hn t (i+1) (a++[0]) (b++[p]) (d++[⟨q,0,false,0,0⟩]) (by omega) (by simp;omega) (by simp;omega) (by simp;omega) (h4.snoc (Bd.zero.mono (by omega))) (h5.snoc p3) (fun x hx=>by
   rcases List.mem_append.1 hx with h|h
   ·exact h6 x h
   ·rw [List.mem_singleton.1 h];exact hq) (fun x hx=>by
   rcases List.mem_append.1 hx with h|h
   ·exact h7 x h
   ·rw [List.mem_singleton.1 h]) (by
   rw [List.all_append,h8,List.all_cons,show aCH ⟨q,0,false,0,0⟩=true from decide_eq_true (aQm (by rw [q2];exact aMT (by omega) (by omega)) hq.2.1)];rfl)
  refine⟨a',b',d',g1,g2,g3,g4,g5,g6,g8,g9,fun K k hk=>?_⟩
  obtain⟨k',rfl,_⟩:=a8 hk
  simp only [gO,dT (show(i:Int)<(n:Int) by omega),bT,e0,oB,v1,e1,e2,e3,e4,e5,q1,apS (xs:=d) (x:=(⟨q,0,false,0,0⟩:aG)) (by omega),e6,e7,e8,e9,e10,e11,p1,apS (xs:=b) (x:=p) (by omega),apS (xs:=a) (x:=(0:Rat)) (by omega),mS (i:=i) (by omega)]
  exact g7 K k' (by omega)
theorem aEd {x107:List aA} {i:Nat} {v129:Int} {r:aA} {n w:Nat} (hi:i≤10) (hv:0≤v129) (hm:Bd 8 r.mu) (hr:RN n w r) (hl:x107.length≤100):∃r',RN n w r'∧∀K recl,eZ K x107 (i:Int) v129 recl r=recl (x107++[r']) ((i+1:Nat):Int):=by
 by_cases h0:r.mu=0
 ·refine⟨⟨r.kind,r.a,r.b,r.edge,r.gap,r.j,[],0,r.e⟩,⟨⟨⟨hr.1.1.1,TB.nil⟩,Bd.zero.mono (by omega)⟩,hr.2.1,IO.nil,Rat.le_refl⟩,fun K recl=>?_⟩
  simp only [eZ,mZ hm (by omega),oB,qT (aDh.2 h0),bT,apS (show x107.length≤60000000000 by omega),mS (i:=i) (by omega)]
 ·by_cases h1:v129%5=0
  ·refine⟨⟨r.kind,r.a,r.b,r.edge,r.gap,r.j,[],0,r.e⟩,⟨⟨⟨hr.1.1.1,TB.nil⟩,Bd.zero.mono (by omega)⟩,hr.2.1,IO.nil,Rat.le_refl⟩,fun K recl=>?_⟩
   simp only [eZ,mZ hm (by omega),oB,qF (fun h=>h0 (aDh.1 h)),bO,mW hv (show(0:Int)<5 by omega),qT h1,bT,apS (show x107.length≤60000000000 by omega),mS (i:=i) (by omega)]
  ·refine⟨r,hr,fun K recl=>?_⟩
   simp only [eZ,mZ hm (by omega),oB,qF (fun h=>h0 (aDh.1 h)),bO,mW hv (show(0:Int)<5 by omega),qF h1,apS (show x107.length≤60000000000 by omega),mS (i:=i) (by omega)]
theorem aIy {x107:List aA} {i:Nat} {v129:Int} {a b:List aE} {m:Rat} {n w:Nat} (hi:i≤10) (hv:0≤v129) (hm:Bd 8 m) (ha:NT w a) (hb:NT n b) (hm0:0≤m) (hl:x107.length≤100):∃r',RN n w r'∧∀K recl,f9 K x107 (i:Int) v129 a b m recl=recl (x107++[r']) ((i+1:Nat):Int):=by
 by_cases h0:m=0
 ·refine⟨⟨0,0,(i:Int),0,0,a,[],0,0⟩,⟨⟨⟨ha.1,TB.nil⟩,Bd.zero.mono (by omega)⟩,ha.2,IO.nil,Rat.le_refl⟩,fun K recl=>?_⟩
  simp only [f9,mZ hm (by omega),oB,qT (aDh.2 h0),bT,apS (show x107.length≤60000000000 by omega),mS (i:=i) (by omega)]
 ·by_cases h1:v129%5=0
  ·refine⟨⟨0,0,(i:Int),0,0,a,[],0,0⟩,⟨⟨⟨ha.1,TB.nil⟩,Bd.zero.mono (by omega)⟩,ha.2,IO.nil,Rat.le_refl⟩,fun K recl=>?_⟩
   simp only [f9,mZ hm (by omega),oB,qF (fun h=>h0 (aDh.1 h)),bO,mW hv (show(0:Int)<5 by omega),qT h1,bT,apS (show x107.length≤60000000000 by omega),mS (i:=i) (by omega)]
  ·refine⟨⟨0,0,(i:Int),0,0,a,b,m,0⟩,⟨⟨⟨ha.1,hb.1⟩,hm⟩,ha.2,hb.2,hm0⟩,fun K recl=>?_⟩
   simp only [f9,mZ hm (by omega),oB,qF (fun h=>h0 (aDh.1 h)),bO,mW hv (show(0:Int)<5 by omega),qF h1,apS (show x107.length≤60000000000 by omega),mS (i:=i) (by omega)]
theorem aBV {l:List Int} (hl:aHV l) (a1:Bool) (n:Nat) (hn:1≤n∧n≤4) {v8:Int} (h8:bH l 8 5=some v8) (h8':v8<5):∀(t i:Nat) (x:List aA),i+t=4→x.length=i→RsN n (bif a1 then n else n-1) x→
  ∃r,RsN n (bif a1 then n else n-1) r∧r.length≤4∧∀K k,n<K→t<k→cU K l a1 (n:Int) k x (i:Int)=some r
 |0,i,x,hi,hx,hr=>⟨x,hr,by omega,fun K k hK hk=>by
  obtain⟨k',rfl,_⟩:=a8 hk
  simp only [cU,h8,oB,dF (show¬(i:Int)<v8 by omega),bO]⟩
 |t+1,i,x,hi,hx,hr=>by
  by_cases hlt:(i:Int)<v8
  ·obtain⟨v129,v137,v145,v151,q,r131,r139,r197,b1,b2,b3,b4,b5,b6,b7,b8,b9,b10,b11,b12,b14,b13⟩:=aFw hl i (by omega) n hn
   have e3:aP (3*(i:Int))=some (3*(i:Int)):=kM (by omega)
   have e9:aP (9+3*(i:Int))=some (9+3*(i:Int)):=kM (by omega)
   have e10:aP (10+3*(i:Int))=some (10+3*(i:Int)):=kM (by omega)
   have e11:aP (11+3*(i:Int))=some (11+3*(i:Int)):=kM (by omega)
   have en:aP ((n:Int)-1)=some ((n:Int)-1):=kM (by omega)
   cases a1
   ·obtain⟨r',c1,c2⟩:=aEd (x107:=x) (i:=i) (v129:=v129) (r:=⟨0,0,(i:Int),0,0,r197,r139,q,0⟩) (by omega) b8 b7 (n:=n) (w:=n-1) ⟨⟨⟨b12.1,b11.1⟩,b7⟩,b12.2,b11.2,b14⟩ (by omega)
    obtain⟨r,d1,d2,d3⟩:=aBV hl false n hn h8 h8' t (i+1) (x++[r']) (by omega) (by simp;omega) (hr.snoc c1)
    refine⟨r,d1,d2,fun K k hK hk=>?_⟩
    obtain⟨k',rfl,_⟩:=a8 hk
    obtain⟨s1,s2,s3⟩:=b13 K hK
    simp only [cU,h8,oB,dT hlt,bT,e3,e9,e10,e11,b1,b2,b3,b4,b5,b6,s1,s2,s3,Bool.not_false,en,c2]
    exact d3 K k' hK (by omega)
   ·obtain⟨r',c1,c2⟩:=aEd (x107:=x) (i:=i) (v129:=v129) (r:=⟨0,0,(i:Int),0,0,r131,r139,q,0⟩) (by omega) b8 b7 (n:=n) (w:=n) ⟨⟨⟨b10.1,b11.1⟩,b7⟩,b10.2,b11.2,b14⟩ (by omega)
    obtain⟨r,d1,d2,d3⟩:=aBV hl true n hn h8 h8' t (i+1) (x++[r']) (by omega) (by simp;omega) (hr.snoc c1)
    refine⟨r,d1,d2,fun K k hK hk=>?_⟩
    obtain⟨k',rfl,_⟩:=a8 hk
    obtain⟨s1,s2,s3⟩:=b13 K hK
    simp only [cU,h8,oB,dT hlt,bT,e3,e9,e10,e11,b1,b2,b3,b4,b5,b6,s1,s2,Bool.not_true,bO,c2]
    exact d3 K k' hK (by omega)
  ·refine⟨x,hr,by omega,fun K k hK hk=>?_⟩
   obtain⟨k',rfl,_⟩:=a8 hk
   simp only [cU,h8,oB,dF hlt,bO]
theorem aEu {l:List Int} (hl:aHV l) (n:Nat) (hn:1≤n∧n≤4) {v8:Int} (h8:bH l 8 5=some v8) (h8':v8<5):∀(t i:Nat) (x:List aA),i+t=4→x.length=i→RsN n n x→
  ∃r,RsN n n r∧r.length≤4∧∀K k,n<K→t<k→dW K l (n:Int) k x (i:Int)=some r
 |0,i,x,hi,hx,hr=>⟨x,hr,by omega,fun K k hK hk=>by
  obtain⟨k',rfl,_⟩:=a8 hk
  simp only [dW,h8,oB,dF (show¬(i:Int)<v8 by omega),bO]⟩
 |t+1,i,x,hi,hx,hr=>by
  by_cases hlt:(i:Int)<v8
  ·obtain⟨v129,v137,v145,v151,q,r131,r139,r197,b1,b2,b3,b4,b5,b6,b7,b8,b9,b10,b11,b12,b14,b13⟩:=aFw hl i (by omega) n hn
   have e3:aP (3*(i:Int))=some (3*(i:Int)):=kM (by omega)
   have e9:aP (9+3*(i:Int))=some (9+3*(i:Int)):=kM (by omega)
   have e10:aP (10+3*(i:Int))=some (10+3*(i:Int)):=kM (by omega)
   have e11:aP (11+3*(i:Int))=some (11+3*(i:Int)):=kM (by omega)
   obtain⟨r',c1,c2⟩:=aIy (x107:=x) (i:=i) (v129:=v129) (a:=r131) (b:=r139) (m:=q) (by omega) b8 b7 b10 b11 b14 (by omega)
   obtain⟨r,d1,d2,d3⟩:=aEu hl n hn h8 h8' t (i+1) (x++[r']) (by omega) (by simp;omega) (hr.snoc c1)
   refine⟨r,d1,d2,fun K k hK hk=>?_⟩
   obtain⟨k',rfl,_⟩:=a8 hk
   obtain⟨s1,s2,s3⟩:=b13 K hK
   simp only [dW,h8,oB,dT hlt,bT,e3,e9,e10,e11,b1,b2,b3,b4,b5,b6,s1,s2,c2]
   exact d3 K k' hK (by omega)
  ·refine⟨x,hr,by omega,fun K k hK hk=>?_⟩
   obtain⟨k',rfl,_⟩:=a8 hk
   simp only [dW,h8,oB,dF hlt,bO]
theorem aLW {n w:Nat} {l:List aE} (h:IO w l) (hw:w≤n):∀t i,i+t=l.length→tks n l t i=true
 |0,_,_=>rfl
 |t+1,i,hi=>by
  unfold tks
  rw [aLW h hw t (i+1) (by omega),Bool.and_true]
  have hil:i<l.length:=by omega
  have e:∀k,(hk:k<l.length)→u6 l k=l[k]:=fun k hk=>by
   unfold u6;simp only [List.getD_eq_getElem?_getD,List.getElem?_eq_getElem hk,Option.getD_some]
  have h1:=h.1 l[i] (List.getElem_mem hil)
  refine decide_eq_true ⟨by rw [e i hil];exact h1.1,by rw [e i hil];have:=h1.2;omega,fun h0=>?_⟩
  rw [e i hil,e (i-1) (by omega)]
  exact List.pairwise_iff_getElem.1 h.2 (i-1) i (by omega) hil (by omega)
theorem aPv {v:List Rat}:∀(l:List aE) (x:Rat),(∀t∈l,trm v t=0)→rtf v l x=x
 |[],x,_=>rfl
 |t::l,x,h=>by
  unfold rtf
  rw [h t (List.mem_cons_self ..),Rat.add_zero]
  exact aPv l x fun u hu=>h u (List.mem_cons_of_mem _ hu)
theorem aIU {d:List aG} {f v:List Rat} {l:List aA} {n w:Nat} (hn:n≤4) (hw:w≤n) (hd:d.length=n) (hf:f.length=n) (hv:v.length=n) (hp:d.all aCH=true) (hl:RsN n w l) (h0:∀j,j<w→oA v j=0):aAV d f v l=true:=by
 unfold aAV
 rw [hp,decide_eq_true (show d.length≤12∧f.length=d.length∧v.length=d.length by omega),Bool.true_and,Bool.true_and]
 refine List.all_eq_true.2 fun r hr=>?_
 obtain⟨r1,r2,r3,r4⟩:=hl r hr
 have e:rt r.j v=0:=aPv _ _ fun t ht=>by
  have:=r2.1 t ht
  unfold trm
  rw [decide_eq_true (show 0≤t.dof∧t.dof<(v.length:Int) by omega),bT,h0 _ (by omega),Rat.mul_zero]
 unfold zN qJ tOk
 rw [e,hd,aLW r2 hw _ _ (Nat.zero_add _),aLW r3 (Nat.le_refl n) _ _ (Nat.zero_add _),decide_eq_true (aL1 r4)];rfl
theorem aFT {a:List Rat} (h:∀x∈a,x=0) (j:Nat):oA a j=0:=by
 by_cases e:j<a.length
 ·exact h _ (wI e)
 ·unfold oA;rw [List.getD_eq_getElem?_getD,List.getElem?_eq_none (by omega)];rfl
theorem aNi {l:List Int} (hl:aHV l) (rest:Bool):∃s,aP0 s∧aAV s.dofs s.load s.v s.rows=true∧vQ 4 s.load∧Ev (fun K=>kE K l rest) s:=by
 obtain⟨v0,a1,a2,a3⟩:=aBC hl 0 (m:=4) (by omega)
 obtain⟨n,hn⟩:∃n:Nat,1+v0=(n:Int):=⟨(1+v0).toNat,by omega⟩
 have e1:aP (1+v0)=some (n:Int):=by rw [kM (by omega),hn]
 obtain⟨a,b,d,g1,g2,g3,g4,g5,g6,g8,g9,g7⟩:=aE2 hl (n:=n) (by omega) n 0 [] [] [] (by omega) rfl rfl rfl (fun t h=>absurd h List.not_mem_nil) (fun t h=>absurd h List.not_mem_nil) (fun t h=>absurd h List.not_mem_nil) (fun t h=>absurd h List.not_mem_nil) rfl
 obtain⟨v5,b1,b2,b3⟩:=aBC hl 5 (m:=3) (by omega)
 obtain⟨v8,c1,c2,c3⟩:=aBC hl 8 (m:=5) (by omega)
 obtain⟨r,d1,d2,d3⟩:=aEu hl n (by omega) c1 c3 4 0 [] rfl rfl (fun x h=>absurd h List.not_mem_nil)
 obtain⟨r',d1',d2',d3'⟩:=aBV hl rest n (by omega) c1 c3 4 0 [] rfl rfl (fun x h=>absurd h List.not_mem_nil)
 simp only [Int.natCast_zero] at g7 d3 d3'
 by_cases h5:0<v5
 ·cases rest
  ·obtain⟨v6,f1,f2,f3⟩:=aBC hl 6 (m:=9) (by omega)
   obtain⟨v7,f4,f5,f6⟩:=aBC hl 7 (m:=3) (by omega)
   obtain⟨q,q1,q2,q3⟩:=aCJ (k:=8) (p:=v6-4) (q:=1+v7) (by omega) (by omega) (by omega) (by omega)
   have e2:aP ((n:Int)-1)=some ((n-1:Nat):Int):=zT (m:=0) (by omega) (by omega)
   have e3:aP (v6-4)=some (v6-4):=kM (by omega)
   have e4:aP (1+v7)=some (1+v7):=kM (by omega)
   refine⟨⟨d,b,a.set (n-1) q,r'⟩,⟨by simp only;omega,by simp only;omega,g6,by simp only;omega,by simp only [List.length_set];omega,(fun x hx=>(g5 x hx).mono (by omega)),fun x hx=>?_,fun x hx=>(d1' x hx).1.1,d2',fun x hx=>(d1' x hx).1⟩,aIU (n:=n) (w:=n-1) (by omega) (by omega) g3 g2 (by simp only [List.length_set];omega) g9 d1' fun j hj=>by unfold oA;rw [List.getD_eq_getElem?_getD,List.getElem?_set_ne (by omega),←List.getD_eq_getElem?_getD];exact aFT g8 j,g5,⟨6+n,fun K hK=>?_⟩⟩
   ·rcases List.mem_or_eq_of_mem_set hx with h|h
    ·exact g4 x h
    ·rw [h];exact q3
   ·simp only [kE,a1,oB,e1,g7 K K (by omega),iY,b1,dT h5,bT,Bool.not_false,e2,f1,e3,f4,e4,q1,aHy (l:=a) (i:=n-1) (by omega),stG (xs:=a) (i:=n-1) (v:=q) (by omega),iX,d3' K K (by omega) (by omega),kP]
  ·refine⟨⟨d,b,a,r'⟩,⟨by simp only;omega,by simp only;omega,g6,by simp only;omega,by simp only;omega,(fun x hx=>(g5 x hx).mono (by omega)),g4,fun x hx=>(d1' x hx).1.1,d2',fun x hx=>(d1' x hx).1⟩,aIU (n:=n) (w:=n) (by omega) (by omega) g3 g2 g1 g9 d1' fun j _=>aFT g8 j,g5,⟨6+n,fun K hK=>?_⟩⟩
   simp only [kE,a1,oB,e1,g7 K K (by omega),iY,b1,dT h5,bT,Bool.not_true,bO,iX,d3' K K (by omega) (by omega),kP]
 ·refine⟨⟨d,b,a,r⟩,⟨by simp only;omega,by simp only;omega,g6,by simp only;omega,by simp only;omega,(fun x hx=>(g5 x hx).mono (by omega)),g4,fun x hx=>(d1 x hx).1.1,d2,fun x hx=>(d1 x hx).1⟩,aIU (n:=n) (w:=n) (by omega) (by omega) g3 g2 g1 g9 d1 fun j _=>aFT g8 j,g5,⟨6+n,fun K hK=>?_⟩⟩
  simp only [kE,a1,oB,e1,g7 K K (by omega),iY,b1,dF h5,bO,m9,d3 K K (by omega) (by omega),nJ]
end Go.Proofs.YtcjdedkdoagifaaGreat
set_option linter.unusedVariables false
namespace Go.Proofs.YtcjdedkdoagifaaGreat
end Go.Proofs.YtcjdedkdoagifaaGreat
set_option linter.unusedVariables false
namespace Go.Proofs.YtcjdedkdoagifaaGreat
theorem aOh {c:Rat} {f:Nat→Rat} {n:Nat} (t:aE):trm (mp (fun j=>c*f j) n) t=c*trm (mp f n) t:=by
 unfold trm
 rw [bF,bF]
 by_cases h:0≤t.dof∧t.dof<(n:Int)
 ·rw [decide_eq_true h,bT,bT,aAp (show t.dof.toNat<n by omega),aAp (show t.dof.toNat<n by omega)];grind
 ·rw [decide_eq_false h,bO,bO,Rat.mul_zero]
theorem aJK {c:Rat} {f:Nat→Rat} {n:Nat}:∀(l:List aE) (x:Rat),rtf (mp (fun j=>c*f j) n) l (c*x)=c*rtf (mp f n) l x
 |[],x=>rfl
 |t::l,x=>by
  unfold rtf
  rw [aOh,←Rat.mul_add];exact aJK l _
theorem aLQ {c:Rat} {f:Nat→Rat} {n:Nat} (l:List aE):rt l (mp (fun j=>c*f j) n)=c*rt l (mp f n):=by
 have:=aJK (c:=c) (f:=f) (n:=n) l 0
 rwa [Rat.mul_zero] at this
theorem aQp {c:Rat} {v:List Rat} {l:List aA} {f:Nat→Rat} {n k:Nat}:rv v l (mp (fun j=>c*f j) n) k=c*rv v l (mp f n) k:=by
 unfold rv
 rw [aLQ,aLQ]
 split
 ·rfl
 ·split
  ·rfl
  ·split
   ·grind
   ·rw [Rat.mul_zero]
end Go.Proofs.YtcjdedkdoagifaaGreat
set_option linter.unusedVariables false
namespace Go.Proofs.YtcjdedkdoagifaaGreat
def aNB (p:Nat→aF) (c:Rat) (q:Nat→aF):Nat→aF:=fun i=>⟨(p i).n+c*(q i).n,(p i).f+c*(q i).f⟩
theorem aPV {v:List Rat} {l:List aA} {z y:Nat→Rat} {c:Rat}:pz v l (fun k=>z k+c*y k)=aNB (pz v l z) c (pz v l y):=by
 funext i
 unfold pz aNB
 by_cases h:(gH l i).t.length=0
 ·simp only [if_pos h];congr 1;grind
 ·by_cases h2:(rt (gH l i).t v).num.sign≠0
  ·simp only [if_neg h,if_pos h2];congr 1;grind
  ·simp only [if_neg h,if_neg h2];congr 1;grind
theorem aLJ {l:List aA} {p q:Nat→aF} {c:Rat} {m j:Nat}:ptot l (aNB p c q) m j=ptot l p m j+c*ptot l q m j:=by
 unfold ptot
 rw [←sF,←yO]
 refine bJ fun r _=>?_
 unfold rcq aNB
 grind
theorem aNI {d:List aG} {l:List aA} {p q:Nat→aF} {c:Rat}:acc d z0 l (aNB p c q)=fun j=>acc d z0 l p j+c*acc d z0 l q j:=by
 funext j
 unfold acc z0
 rw [aLJ];grind
theorem aQI {v:List Rat} {l:List aA} {z y:Nat→Rat} {c:Rat} {k:Nat}:zv v l (fun k=>z k+c*y k) k=zv v l z k+c*zv v l y k:=by
 unfold zv
 split
 ·grind
 ·split
  ·rfl
  ·split
   ·rfl
   ·grind
def gv (d:List aG) (v:List Rat) (l:List aA) (z:Nat→Rat) (i:Nat):Rat:=rv v l (mp (acc d z0 l (pz v l z)) d.length) i+zv v l z i
theorem aLM {d:List aG} {v:List Rat} {l:List aA} {z y:Nat→Rat} {c:Rat} {i:Nat}:gv d v l (fun k=>z k+c*y k) i=gv d v l z i+c*gv d v l y i:=by
 unfold gv
 rw [aPV,aNI,aQI,aIp,aQp];grind
theorem aNV {d:List aG} {v:List Rat} {l:List aA} {i:Nat}:gv d v l z0 i=0:=by
 have h:=aLM (d:=d) (v:=v) (l:=l) (z:=z0) (y:=z0) (c:=-1) (i:=i)
 have e:(fun k=>z0 k+ -1*z0 k)=z0:=by funext k;show(0:Rat)+ -1*0=0;grind
 rw [e] at h;grind
theorem aIH {d:List aG} {v:List Rat} {l:List aA} {z:Nat→Rat} {i:Nat}:∀m,gv d v l (tz z m) i=sm (fun k=>Mf d v l i k*z k) m
 |0=>by
  have e:tz z 0=z0:=funext fun k=>aCh (Nat.zero_le _)
  rw [e];exact aNV
 |m+1=>by
  have e:tz z (m+1)=fun k=>tz z m k+z m*ek m k:=funext fun k=>by
   by_cases h:k=m
   ·subst h
    rw [aKn rfl,aCh (Nat.le_refl _)]
    unfold ek;rw [aW];grind
   ·rw [aC8 h]
    unfold ek;rw [bY h];show _=_+z m*0;grind
  rw [e,aLM,aIH m]
  show _=sm _ m+Mf d v l i m*z m
  have:gv d v l (ek m) i=Mf d v l i m:=rfl
  rw [this];grind
theorem aQR {d:List aG} {f v:List Rat} {l:List aA} {z:Nat→Rat} {n i:Nat} (hz:tz z n=z):sm (fun k=>Mf d v l i k*z k) n+qf d (oA f) v l i=vl v l (mp (acc d (oA f) l (pz v l z)) d.length) z i:=by
 rw [←aIH,hz]
 unfold gv vl qf
 rw [aE0 (f:=oA f) (p:=pz v l z),aIp]
 generalize rv v l (mp (acc d (oA f) l p0) d.length) i=x
 generalize rv v l (mp (acc d z0 l (pz v l z)) d.length) i=y
 generalize zv v l z i=u
 grind
structure aM9 (r:aA) (v:List Rat) (a:List Rat) (p:aF):Prop where
 n0:0≤p.n
 j0:0≤rt r.j a
 nj:p.n=0∨rt r.j a=0
 none:r.t.length=0→p.f=0
 slip:r.t.length≠0→rt r.t v≠0→p.f=(((-(rt r.t v).num.sign:Int):Rat)/((1:Int):Rat))*(r.mu*p.n)
 stick:r.t.length≠0→rt r.t v=0→p.f≤r.mu*p.n∧-(p.f)≤r.mu*p.n∧(0<rt r.t a→p.f=-(r.mu*p.n))∧(rt r.t a<0→p.f=r.mu*p.n)
theorem aME {d:List aG} {f v:List Rat} {l:List aA} {z w:Nat→Rat} (hz:tz z (off v l l.length)=z) (h:Sol (Mf d v l) (qf d (oA f) v l) (off v l l.length) z w) {r:Nat} (hr:r<l.length):aM9 (gH l r) v (mp (acc d (oA f) l (pz v l z)) d.length) (pz v l z r):=by
 have W:∀i,i<off v l l.length→w i=vl v l (mp (acc d (oA f) l (pz v l z)) d.length) z i:=fun i hi=>by rw [h.eq i hi,aQR hz]
 generalize mp (acc d (oA f) l (pz v l z)) d.length=a at *
 have q0:vq v l r 0:=.inl rfl
 have b0:=qK (v:=v) hr q0
 rw [Nat.add_zero] at b0
 have u0:uk v l (off v l r)=(r,0):=aCi q0 hr
 have w0:w (off v l r)=rt (gH l r).j a:=by
  rw [W _ b0]
  unfold vl rv zv
  simp only [u0,if_true];rw [Rat.add_zero]
 have z1:=h.z0 _ b0
 have z2:=h.w0 _ b0
 have z3:=h.zw _ b0
 rw [w0] at z2 z3
 have pn:(pz v l z r).n=z (off v l r):=by
  unfold pz
  split
  ·rfl
  ·split<;>rfl
 refine⟨by rw [pn];exact z1,z2,by rw [pn];exact z3,fun ht=>?_,fun ht hs=>?_,fun ht hs=>?_⟩
 ·unfold pz;rw [if_pos ht]
 ·have:(rt (gH l r).t v).num.sign≠0:=fun e=>hs (aDh.1 e)
  rw [pn]
  unfold pz;rw [if_neg ht,if_pos this]
 ·have hk:yX v (gH l r)=true:=by
   unfold yX
   rw [decide_eq_true (show 0<(gH l r).t.length by omega),decide_eq_true (aDh.2 hs)];rfl
  have q1:vq v l r 1:=.inr ⟨hk,by omega⟩
  have q2:vq v l r 2:=.inr ⟨hk,by omega⟩
  have q3:vq v l r 3:=.inr ⟨hk,by omega⟩
  have b1:=qK (v:=v) hr q1
  have b2:=qK (v:=v) hr q2
  have b3:=qK (v:=v) hr q3
  have w1:w (off v l r+1)=rt (gH l r).t a+z (off v l r+1+2):=by
   rw [W _ b1];unfold vl rv zv;simp only [aCi q1 hr];rfl
  have w2:w (off v l r+2)=-(rt (gH l r).t a)+z (off v l r+2+1):=by
   rw [W _ b2];unfold vl rv zv;simp only [aCi q2 hr];rfl
  have w3:w (off v l r+3)=0+((gH l r).mu*z (off v l r+3-3)-(z (off v l r+3-2)+z (off v l r+3-1))):=by
   rw [W _ b3];unfold vl rv zv;simp only [aCi q3 hr];rfl
  rw [show off v l r+1+2=off v l r+3 by omega] at w1
  rw [show off v l r+2+1=off v l r+3 by omega] at w2
  rw [show off v l r+3-3=off v l r by omega,show off v l r+3-2=off v l r+1 by omega,show off v l r+3-1=off v l r+2 by omega] at w3
  have f1:=h.z0 _ b1
  have f2:=h.z0 _ b2
  have f3:=h.z0 _ b3
  have g1:=h.w0 _ b1
  have g2:=h.w0 _ b2
  have g3:=h.w0 _ b3
  have c1:=h.zw _ b1
  have c2:=h.zw _ b2
  have c3:=h.zw _ b3
  rw [w1] at g1 c1
  rw [w2] at g2 c2
  rw [w3] at g3 c3
  have pf:(pz v l z r).f=z (off v l r+1)-z (off v l r+2):=by
   unfold pz;rw [if_neg ht,if_neg (fun e=>e (aDh.2 hs))]
  rw [pn,pf]
  generalize rt (gH l r).t a=t at *
  generalize z (off v l r+1)=x1 at *
  generalize z (off v l r+2)=x2 at *
  generalize z (off v l r+3)=x3 at *
  generalize(gH l r).mu*z (off v l r)=m at *
  refine⟨by grind,by grind,fun h=>?_,fun h=>?_⟩
  ·have e1:x1=0:=by grind
   have e3:0+(m-(x1+x2))=0:=by grind
   grind
  ·have e1:x2=0:=by grind
   have e3:0+(m-(x1+x2))=0:=by grind
   grind
theorem aG4 {n most:Nat}:∀f T b r c cnt,(lem n most f T b r c cnt).2=0∨(lem n most f T b r c cnt).2=15∨(lem n most f T b r c cnt).2=16
 |0,T,b,r,c,cnt=>Or.inr (Or.inr rfl)
 |f+1,T,b,r,c,cnt=>by
  unfold lem
  by_cases e:cnt=most
  ·rw [if_pos e];exact Or.inr (Or.inr rfl)
  ·rw [if_neg e]
   by_cases e2:b r=2*n
   ·rw [if_pos e2];exact Or.inl rfl
   ·rw [if_neg e2]
    cases sel (nL T r c) n (if b r<n then b r+n else b r-n) n 0 none with
    |none=>exact Or.inr (Or.inl rfl)
    |some r'=>exact aG4 f _ _ _ _ _
theorem aFI {M:Nat→Nat→Rat} {q:Nat→Rat} {n most:Nat}:(tN M q n most).2=0∨(tN M q n most).2=15∨(tN M q n most).2=16:=by
 unfold tN
 cases ng q n 0
 ·exact Or.inl rfl
 ·exact aG4 _ _ _ _ _ _
theorem aKw {d:List aG} {f v:List Rat} {l:List aA}:((aBm d f v l).2.2=15∨(aBm d f v l).2.2=16)∨∃z,aBm d f v l=(mp (acc d (oA f) l (pz v l z)) d.length,mp (pz v l z) l.length,0)∧∀r,r<l.length→aM9 (gH l r) v (mp (acc d (oA f) l (pz v l z)) d.length) (pz v l z r):=by
 by_cases h0:(tN (Mf d v l) (qf d (oA f) v l) (off v l l.length) 4096).2=0
 ·right
  obtain⟨z,w,h1,h2,h3⟩:=aLX h0
  have ez:oA (tN (Mf d v l) (qf d (oA f) v l) (off v l l.length) 4096).1.z=tz z (off v l l.length):=by
   rw [h1];funext j
   unfold tz
   by_cases e:j<off v l l.length
   ·rw [if_pos e,aAp e]
   ·rw [if_neg e];unfold oA;rw [List.getD_eq_getElem?_getD,List.getElem?_eq_none (by rw [bF];omega)];rfl
  refine⟨tz z (off v l l.length),?_,fun r hr=>?_⟩
  ·unfold aBm;rw [nF h0,bO,ez]
  ·have tt:tz (tz z (off v l l.length)) (off v l l.length)=tz z (off v l l.length):=funext fun j=>by unfold tz;split<;>rfl
   have hs:Sol (Mf d v l) (qf d (oA f) v l) (off v l l.length) (tz z (off v l l.length)) w:=by
    have e:∀j,j<off v l l.length→tz z (off v l l.length) j=z j:=fun j hj=>if_pos hj
    exact⟨fun j hj=>by rw [e j hj];exact h3.z0 j hj,h3.w0,fun i hi=>by rw [h3.eq i hi];congr 1;exact bJ fun j hj=>by rw [e j hj],fun j hj=>by rw [e j hj];exact h3.zw j hj⟩
   exact aME tt hs hr
 ·left
  unfold aBm;rw [nT h0,bT]
  rcases aFI (M:=Mf d v l) (q:=qf d (oA f) v l) (n:=off v l l.length) (most:=4096) with h|h|h
  ·exact absurd h h0
  ·exact Or.inl h
  ·exact Or.inr h
end Go.Proofs.YtcjdedkdoagifaaGreat
set_option linter.unusedVariables false
namespace Go.Proofs.YtcjdedkdoagifaaGreat
theorem aIO {M:Nat→Nat→Rat} {q:Nat→Rat} {n most:Nat} (hP:PSD M q n):(tN M q n most).2≠15:=by
 unfold tN
 cases hneg:ng q n 0
 ·rw [bO];exact show¬(0:Int)=15 by decide
 ·rw [bT]
  obtain⟨h1,h2,h3⟩:=aLj (M:=M) hneg
  have hm:=aCd (n:=n) (T:=k5 M q n) n 0 0 (fun k hk=>by omega)
  generalize hr:uX (k5 M q n) n n 0 0=r at *
  intro h
  have hb0:∀v,mem n (gI (fun j=>j) r (2*n)) v↔(v=2*n∨(v<n∧v≠r)):=fun v=>by
   constructor
   ·rintro⟨i,i1,i2⟩
    by_cases e:i=r
    ·rw [e,aW] at i2;exact Or.inl i2.symm
    ·rw [bY e] at i2;exact Or.inr ⟨by omega,by omega⟩
   ·rintro(h|⟨ha,hb⟩)
    ·exact⟨r,h2,by rw [aW,h]⟩
    ·exact⟨v,ha,bY hb⟩
  have cA:∀k,(∀j,j<k→aNk n (pA n ⟨nL (k5 M q n) r (2*n),gI (fun j=>j) r (2*n),uC n r⟩ j))→sel (pA n ⟨nL (k5 M q n) r (2*n),gI (fun j=>j) r (2*n),uC n r⟩ k).t n (pA n ⟨nL (k5 M q n) r (2*n),gI (fun j=>j) r (2*n),uC n r⟩ k).c n 0 none=none→False:=fun k k1 k2=>by
   have run:=aH8 (N:=k) (s:=⟨nL (k5 M q n) r (2*n),gI (fun j=>j) r (2*n),uC n r⟩) h1 h3 k1
   refine aQf hP run h2 hb0 rfl (fun k hk=>hm k (by omega)) fun i hi hp=>?_
   exact(aAS n 0 none k2).2 i (by omega) (by omega) (aKt.2 hp)
  unfold lem at h
  by_cases e:0=most
  ·rw [if_pos e] at h;exact absurd h (show¬(16:Int)=15 by decide)
  ·rw [if_neg e,if_neg (show¬r=2*n by omega)] at h
   cases hs:sel (nL (k5 M q n) r (2*n)) n (if r<n then r+n else r-n) n 0 none with
   |none=>exact cA 0 (fun j hj=>by omega) hs
   |some r'=>
    rw [hs] at h
    obtain⟨k,k1,k2⟩:=aJz most (nL (k5 M q n) r (2*n)) (gI (fun j=>j) r (2*n)) r' _ (0+1) hs h
    exact cA k k1 k2
theorem aLG {a:Nat→Rat} {n:Nat}:∀(l:List aE) (x:Rat),InT n l→rtf (mp a n) l x=x+sm (fun j=>cf l j*a j) n
 |[],x,_=>by
  show x=x+sm (fun j=>0*a j) n
  rw [nZ fun j _=>Rat.zero_mul _,Rat.add_zero]
 |t::l,x,h=>by
  obtain⟨t1,t2⟩:=h t (List.mem_cons_self ..)
  have ih:=aLG (a:=a) (n:=n) l (x+trm (mp a n) t) (fun u hu=>h u (List.mem_cons_of_mem _ hu))
  show rtf (mp a n) l (x+trm (mp a n) t)=_
  rw [ih]
  have e1:trm (mp a n) t=sm (fun j=>(if t.dof=(j:Int) then t.k else 0)*a j) n:=by
   unfold trm
   rw [bF,decide_eq_true (show 0≤t.dof∧t.dof<(n:Int) from⟨t1,t2⟩),bT,aAp (by omega)]
   rw [rW (p:=t.dof.toNat) (by omega) fun j _ hne=>by rw [if_neg (by omega),Rat.zero_mul],if_pos (by omega)]
  have e2:sm (fun j=>cf (t::l) j*a j) n=sm (fun j=>(if t.dof=(j:Int) then t.k else 0)*a j) n+sm (fun j=>cf l j*a j) n:=by
   rw [←yO];exact bJ fun j _=>by show((if t.dof=(j:Int) then t.k else 0)+cf l j)*a j=_;grind
  rw [e1,e2];grind
theorem aNg {a:Nat→Rat} {n:Nat} {l:List aE} (h:InT n l):rt l (mp a n)=sm (fun j=>cf l j*a j) n:=by
 unfold rt;rw [aLG l 0 h,Rat.zero_add]
def tT (l:List aA):Prop:=∀r∈l,r.t=[]
theorem tT.at {l:List aA} (h:tT l) {i:Nat} (hi:i<l.length):(gH l i).t=[]:=h _ (k8 hi)
theorem tT.off {v:List Rat} {l:List aA} (h:tT l):∀m,m≤l.length→Proofs.YtcjdedkdoagifaaGreat.off v l m=m
 |0,_=>rfl
 |m+1,hm=>by
  have e:yX v (gH l m)=false:=by unfold yX;rw [h.at (by omega)];rfl
  show Go.Proofs.YtcjdedkdoagifaaGreat.off v l m+(bif yX v (gH l m) then 4 else 1)=m+1
  rw [h.off m (by omega),e];rfl
def Ps (l:List aA) (z:Nat→Rat) (j:Nat):Rat:=sm (fun r=>cf (gH l r).j j*z r) l.length
theorem tT.ptot {l:List aA} (h:tT l) {p:Nat→aF} {j:Nat}:Go.Proofs.YtcjdedkdoagifaaGreat.ptot l p l.length j=Ps l (fun r=>(p r).n) j:=by
 unfold Go.Proofs.YtcjdedkdoagifaaGreat.ptot Ps
 refine bJ fun r hr=>?_
 unfold rcq
 rw [h.at hr];show _+0*_=_;rw [Rat.zero_mul,Rat.add_zero]
theorem tT.acc {d:List aG} {f:Nat→Rat} {l:List aA} (h:tT l) {p:Nat→aF}:Go.Proofs.YtcjdedkdoagifaaGreat.acc d f l p=fun j=>(f j+Ps l (fun r=>(p r).n) j)*(tQ d j).inv:=by
 funext j
 unfold Go.Proofs.YtcjdedkdoagifaaGreat.acc
 rw [h.ptot]
theorem tT.uk {v:List Rat} {l:List aA} (h:tT l) {i:Nat} (hi:i<l.length):Go.Proofs.YtcjdedkdoagifaaGreat.uk v l i=(i,0):=by
 have:=aCi (v:=v) (l:=l) (r:=i) (q:=0) (.inl rfl) hi
 rwa [h.off i (by omega),Nat.add_zero] at this
theorem pz_n {v:List Rat} {l:List aA} {z:Nat→Rat} {r:Nat}:(pz v l z r).n=z (off v l r):=by
 unfold pz
 split
 ·rfl
 ·split<;>rfl
theorem tT.rv {v:List Rat} {l:List aA} (h:tT l) {n:Nat} (hr:InR n l) {a:Nat→Rat} {i:Nat} (hi:i<l.length):Go.Proofs.YtcjdedkdoagifaaGreat.rv v l (mp a n) i=sm (fun j=>cf (gH l i).j j*a j) n:=by
 unfold Go.Proofs.YtcjdedkdoagifaaGreat.rv
 rw [h.uk hi,if_pos rfl]
 exact aNg (hr _ (k8 hi)).1
theorem tT.gv {d:List aG} {v:List Rat} {l:List aA} (h:tT l) (hr:InR d.length l) {z:Nat→Rat} {i:Nat} (hi:i<l.length):Go.Proofs.YtcjdedkdoagifaaGreat.gv d v l z i=sm (fun j=>cf (gH l i).j j*(Ps l z j*(tQ d j).inv)) d.length:=by
 unfold Go.Proofs.YtcjdedkdoagifaaGreat.gv
 have e:zv v l z i=0:=by unfold zv;rw [h.uk hi,if_pos rfl]
 rw [e,Rat.add_zero,h.acc,h.rv hr hi]
 refine bJ fun j _=>?_
 have e2:Ps l (fun r=>(pz v l z r).n) j=Ps l z j:=bJ fun r hr=>by show cf (gH l r).j j*(pz v l z r).n=cf (gH l r).j j*z r;rw [pz_n,h.off r (by omega)]
 rw [e2];show _*((0+_)*_)=_;rw [Rat.zero_add]
theorem aRE {l:List aA} {z:Nat→Rat} {j:Nat}:Ps l (tz z l.length) j=Ps l z j:=bJ fun r hr=>by unfold tz;rw [if_pos hr]
theorem tT.Mz {d:List aG} {v:List Rat} {l:List aA} (h:tT l) (hr:InR d.length l) {z:Nat→Rat} {i:Nat} (hi:i<l.length):sm (fun k=>Mf d v l i k*z k) l.length=sm (fun j=>cf (gH l i).j j*(Ps l z j*(tQ d j).inv)) d.length:=by
 rw [←aIH,h.gv hr hi]
 exact bJ fun j _=>by rw [aRE]
theorem zH {l:List aA} {n:Nat} {z g:Nat→Rat}:sm (fun i=>z i*sm (fun j=>cf (gH l i).j j*g j) n) l.length=sm (fun j=>Ps l z j*g j) n:=by
 have e:sm (fun i=>z i*sm (fun j=>cf (gH l i).j j*g j) n) l.length=sm (fun i=>sm (fun j=>z i*(cf (gH l i).j j*g j)) n) l.length:=bJ fun i _=>by rw [sF]
 rw [e,aA3]
 refine bJ fun j _=>?_
 unfold Ps
 rw [Rat.mul_comm,←sF]
 exact bJ fun i _=>by grind
theorem aNx {a b:Rat} (h:0≤b):0≤a*(a*b):=by
 rw [←Rat.mul_assoc]
 refine Rat.mul_nonneg ?_ h
 by_cases e:0≤a
 ·exact Rat.mul_nonneg e e
 ·have:=Rat.mul_nonneg (show 0≤-a by grind) (show 0≤-a by grind)
  grind
theorem tT.psd {d:List aG} {f v:List Rat} {l:List aA} (h:tT l) (hr:InR d.length l) (hd:∀j,j<d.length→0<(tQ d j).inv):PSD (Mf d v l) (qf d (oA f) v l) l.length:=by
 have key:∀z x:Nat→Rat,sm (fun i=>z i*sm (fun j=>Mf d v l i j*x j) l.length) l.length=sm (fun j=>Ps l z j*(Ps l x j*(tQ d j).inv)) d.length:=fun z x=>by
  rw [←zH]
  exact bJ fun i hi=>by rw [h.Mz hr hi]
 refine⟨fun z=>by rw [key];exact wC fun j hj=>aNx (Rat.le_of_lt (hd j hj)),fun z hz=>?_⟩
 rw [key] at hz
 have h0:=aFX (fun j hj=>aNx (Rat.le_of_lt (hd j hj))) hz
 have p0:∀j,j<d.length→Ps l z j=0:=fun j hj=>by
  have h1:=h0 j hj
  have h2:=hd j hj
  refine Classical.byContradiction fun h3=>?_
  have h4:Ps l z j*(tQ d j).inv≠0:=by grind
  have:Ps l z j*(Ps l z j*(tQ d j).inv)≠0:=by grind
  exact this h1
 refine⟨fun x=>by rw [key];exact nZ fun j hj=>by rw [p0 j hj,Rat.zero_mul],?_⟩
 have e:sm (fun i=>z i*qf d (oA f) v l i) l.length=sm (fun j=>Ps l z j*(oA f j*(tQ d j).inv)) d.length:=by
  rw [←zH]
  refine bJ fun i hi=>?_
  unfold qf
  rw [h.acc,h.rv hr hi]
  congr 1
  refine bJ fun j _=>?_
  have:Ps l (fun r=>(Go.Proofs.YtcjdedkdoagifaaGreat.p0 r).n) j=0:=nZ fun r _=>Rat.mul_zero _
  rw [this,Rat.add_zero]
 rw [e]
 exact nZ fun j hj=>by rw [p0 j hj,Rat.zero_mul]
theorem aHs {d:List aG} {f:Nat→Rat} {v:List Rat} {l l':List aA} {p p':Nat→aF} (hd:∀j,j<d.length→0<(tQ d j).inv) (h:tT l) (h':tT l') (hr:InR d.length l) (hr':InR d.length l') (hs:∀i,i<l.length→∃k,k<l'.length∧(gH l' k).j=(gH l i).j) (hs':∀i,i<l'.length→∃k,k<l.length∧(gH l k).j=(gH l' i).j) (hc:∀r,r<l.length→aM9 (gH l r) v (mp (acc d f l p) d.length) (p r)) (hc':∀r,r<l'.length→aM9 (gH l' r) v (mp (acc d f l' p') d.length) (p' r)):mp (acc d f l p) d.length=mp (acc d f l' p') d.length:=by
 have rt1:∀(a:Nat→Rat) r,r<l.length→rt (gH l r).j (mp a d.length)=sm (fun j=>cf (gH l r).j j*a j) d.length:=fun a r hr1=>aNg (hr _ (k8 hr1)).1
 have rt2:∀(a:Nat→Rat) r,r<l'.length→rt (gH l' r).j (mp a d.length)=sm (fun j=>cf (gH l' r).j j*a j) d.length:=fun a r hr1=>aNg (hr' _ (k8 hr1)).1
 generalize ha:acc d f l p=a at *
 generalize ha':acc d f l' p'=a' at *
 let P:Nat→Rat:=Ps l (fun r=>(p r).n)
 let P':Nat→Rat:=Ps l' (fun r=>(p' r).n)
 have e1:sm (fun j=>P j*a j) d.length=0:=by
  rw [←zH]
  exact nZ fun r hr1=>by
   rw [←rt1 a r hr1]
   rcases(hc r hr1).nj with e|e
   ·rw [e,Rat.zero_mul]
   ·rw [e,Rat.mul_zero]
 have e2:sm (fun j=>P' j*a' j) d.length=0:=by
  rw [←zH]
  exact nZ fun r hr1=>by
   rw [←rt2 a' r hr1]
   rcases(hc' r hr1).nj with e|e
   ·rw [e,Rat.zero_mul]
   ·rw [e,Rat.mul_zero]
 have e3:0≤sm (fun j=>P j*a' j) d.length:=by
  rw [←zH]
  refine wC fun r hr1=>?_
  obtain⟨k,k1,k2⟩:=hs r hr1
  rw [←rt1 a' r hr1,←k2]
  exact Rat.mul_nonneg (hc r hr1).n0 (hc' k k1).j0
 have e4:0≤sm (fun j=>P' j*a j) d.length:=by
  rw [←zH]
  refine wC fun r hr1=>?_
  obtain⟨k,k1,k2⟩:=hs' r hr1
  rw [←rt2 a r hr1,←k2]
  exact Rat.mul_nonneg (hc' r hr1).n0 (hc k k1).j0
 have aj:∀j,a j=(f j+P j)*(tQ d j).inv:=fun j=>by rw [←ha,h.acc]
 have aj':∀j,a' j=(f j+P' j)*(tQ d j).inv:=fun j=>by rw [←ha',h'.acc]
 have pos:∀j,j<d.length→0≤(P j-P' j)*((P j-P' j)*(tQ d j).inv):=fun j hj=>aNx (Rat.le_of_lt (hd j hj))
 have tot:sm (fun j=>(P j-P' j)*((P j-P' j)*(tQ d j).inv)) d.length=sm (fun j=>P j*a j) d.length+sm (fun j=>P' j*a' j) d.length-1*(sm (fun j=>P j*a' j) d.length+sm (fun j=>P' j*a j) d.length):=by
  rw [←yO,←yO,←aA1]
  refine bJ fun j _=>?_
  rw [aj,aj'];grind
 have s:=wC pos
 have zero:sm (fun j=>(P j-P' j)*((P j-P' j)*(tQ d j).inv)) d.length=0:=by grind
 have all:=aFX pos zero
 refine bZ fun j hj=>?_
 have h1:=all j hj
 have h2:=hd j hj
 rw [aj,aj']
 have:P j-P' j=0:=by grind
 grind
end Go.Proofs.YtcjdedkdoagifaaGreat
set_option linter.unusedVariables false
namespace Go.Proofs.YtcjdedkdoagifaaGreat
end Go.Proofs.YtcjdedkdoagifaaGreat
set_option linter.unusedVariables false
namespace Go.Proofs.YtcjdedkdoagifaaGreat
theorem aNO {d:List aG} {f v:List Rat} {l:List aA} (h:ScB d f v l) (hm:l.length≤5) (h8:∀j,j<d.length→Bd 8 (oA f j)):vQ 100000000 (aBm d f v l).1∧(∀p∈(aBm d f v l).2.1,Bd 100000000 p.n∧Bd 100000000 p.f)∧(aBm d f v l).1.length≤1000∧(aBm d f v l).2.1.length≤1000:=by
 have hn:=h.n8
 have hrb:RsB l:=fun r hr=>(h.sb.sl r hr).1
 unfold aBm
 by_cases h0:(tN (Mf d v l) (qf d (oA f) v l) (off v l l.length) 4096).2=0
 ·rw [nF h0,bO]
  obtain⟨z1,z2⟩:=aNw (aM4 h hm h8) (by omega) h0
  have zb:∀j,j<off v l l.length→Bd 100000 (oA (tN (Mf d v l) (qf d (oA f) v l) (off v l l.length) 4096).1.z j):=fun j hj=>z2 _ (wI (by omega))
  have pb:=aEW zb h.sb.sl
  have hA:(2*100000+11+9)*24*l.length≤400000000:=Nat.le_trans (Nat.mul_le_mul_left _ hm) (by decide)
  have ab:=aDL h.sb.sd h.fbd hrb h.ir pb (by omega) (by omega) (by omega) hA
  have aB:aIA 64 (2*100000+11) l.length≤100000000:=by unfold aIA;omega
  refine⟨fun x hx=>(ab x hx).mono aB,fun p hp=>?_,by rw [bF];omega,by simp only [mp,List.length_map,List.length_range];omega⟩
  obtain⟨i,hi,rfl⟩:=List.mem_map.1 hp
  obtain⟨b1,b2⟩:=pb i (List.mem_range.1 hi)
  exact⟨b1.mono (by omega),b2.mono (by omega)⟩
 ·rw [nT h0,bT]
  exact⟨fun x hx=>absurd hx List.not_mem_nil,fun x hx=>absurd hx List.not_mem_nil,by simp,by simp⟩
end Go.Proofs.YtcjdedkdoagifaaGreat
set_option linter.unusedVariables false
namespace Go.Proofs.YtcjdedkdoagifaaGreat
/-- The rows of a scene without their friction. -/
def zV (l:List aA) (i:Nat):aA:=⟨0,0,(i:Int),0,0,(gH l i).j,[],0,0⟩
def Pl (l0 l:List aA):Prop:=∀r∈l,∃i,i<l0.length∧r=zV l0 i
theorem Pl.plain {l0 l:List aA} (h:Pl l0 l):tT l:=fun r hr=>by
 obtain⟨i,_,e⟩:=h r hr
 rw [e];rfl
theorem Pl.sb {d:List aG} {f v:List Rat} {l0 l:List aA} (h:Pl l0 l) (hs:SB d f v l0) (hn:l.length≤100):SB d f v l:=by
 refine {hs with sl:=fun r hr=>?_,ll:=hn}
 obtain⟨i,hi,e⟩:=h r hr
 rw [e]
 exact⟨⟨(hs.sl _ (k8 hi)).1.1,TB.nil⟩,Bd.zero.mono (by omega)⟩
theorem Pl.fit {d:List aG} {f v:List Rat} {l0 l:List aA} (h:Pl l0 l) (hf:aAV d f v l0=true):aAV d f v l=true:=by
 unfold aAV at hf ⊢
 rw [Bool.and_eq_true] at hf ⊢
 refine⟨hf.1,List.all_eq_true.2 fun r hr=>?_⟩
 obtain⟨i,hi,e⟩:=h r hr
 have h1:=List.all_eq_true.1 hf.2 _ (k8 hi)
 rw [e]
 unfold zN qJ at h1 ⊢
 rw [Bool.and_eq_true,Bool.and_eq_true,Bool.and_eq_true] at h1
 show((tOk d.length (gH l0 i).j&&tOk d.length []&&decide (0≤(0:Rat).num.sign))&&decide ((rt (gH l0 i).j v).num.sign=0))=true
 rw [h1.1.1.1,h1.2];rfl
theorem aG2 {d:List aG} {f v:List Rat} {l:List aA} (hf:aAV d f v l=true):∀j,j<d.length→0<(tQ d j).inv:=fun j hj=>by
 unfold aAV at hf
 rw [Bool.and_eq_true,Bool.and_eq_true] at hf
 have:=List.all_eq_true.1 hf.1.2 _ (aAY hj)
 exact aKt.1 (of_decide_eq_true this)
theorem aC4 {d:List aG} {f v:List Rat} {l0 l:List aA} (h:Pl l0 l) (hs:SB d f v l0) (hf:aAV d f v l0=true) (hn:l.length≤5) (h8:∀j,j<d.length→Bd 8 (oA f j)) {K:Nat} (hK:6000≤K):ScB d f v l∧∃z,jZ K d f v l=some (mp (acc d (oA f) l (pz v l z)) d.length,mp (pz v l z) l.length,0)∧vQ 100000000 (mp (acc d (oA f) l (pz v l z)) d.length)∧∀r,r<l.length→aM9 (gH l r) v (mp (acc d (oA f) l (pz v l z)) d.length) (pz v l z r):=by
 have hsb:=h.sb hs (by omega)
 have hf':=h.fit hf
 have hS:=aOc hsb (show l.length≤8 by omega) hf'
 obtain⟨p1,_⟩:=aKV hS hf' hn h8 hK
 obtain⟨b1,_⟩:=aNO hS hn h8
 have hoff:=h.plain.off (v:=v) l.length (Nat.le_refl _)
 have psd:=h.plain.psd (f:=f) (v:=v) hS.ir (aG2 hf')
 have h1:=aIO (most:=4096) psd
 have h2:=aKI (M:=Mf d v l) (q:=qf d (oA f) v l) (n:=l.length) (most:=4096) (by
  have:3^l.length≤3^5:=Nat.pow_le_pow_right (by decide) hn
  omega)
 have h0:(tN (Mf d v l) (qf d (oA f) v l) (off v l l.length) 4096).2=0:=by
  rw [hoff]
  rcases aFI (M:=Mf d v l) (q:=qf d (oA f) v l) (n:=l.length) (most:=4096) with h|h|h
  ·exact h
  ·exact absurd h h1
  ·exact absurd h h2
 have hne:(aBm d f v l).2.2=0:=by unfold aBm;rw [nF h0,bO]
 rcases aKw (d:=d) (f:=f) (v:=v) (l:=l) with hc|⟨z,hz,hc⟩
 ·omega
 ·rw [hz] at p1 b1
  exact⟨hS,z,p1,b1,hc⟩
theorem aNC {l0:List aA} {g:Nat→Nat} {n i:Nat} (h:i<n):gH (mp (fun k=>zV l0 (g k)) n) i=zV l0 (g i):=by
 unfold gH
 rw [List.getD_eq_getElem?_getD,yR h];rfl
theorem aJH {s:aK} (hn:s.rows.length≤1000) (K:Nat):∀(t i k:Nat),i+t=s.rows.length→t<k→cZ K s k (mp (zV s.rows) i) (i:Int)=some (mp (zV s.rows) s.rows.length)
 |0,i,k,hi,hk=>by
  obtain⟨k',rfl,_⟩:=a8 hk
  rw [show i=s.rows.length by omega]
  simp only [cZ,dF (show¬(s.rows.length:Int)<(s.rows.length:Int) by omega),bO]
 |t+1,i,k,hi,hk=>by
  obtain⟨k',rfl,_⟩:=a8 hk
  have ap:qD (mp (zV s.rows) i) [(⟨0,0,(i:Int),0,0,(gH s.rows i).j,([]:List aE),0,0⟩:aA)]=some (mp (zV s.rows) (i+1)):=apM (g:=zV s.rows) (i:=i) (by omega)
  simp only [cZ,dT (show(i:Int)<(s.rows.length:Int) by omega),bT,aBX (l:=s.rows) (i:=i) (by omega),oB,ap,mS (i:=i) (by omega)]
  exact aJH hn K t (i+1) k' (by omega) (by omega)
theorem aJ8 {l0:List aA} {n:Nat} (hn:n≤1000) (K:Nat):∀(t i k:Nat),i+t=n→t<k→cY K (mp (zV l0) n) k (mp (fun k=>zV l0 (n-1-k)) i) ((n:Int)-1-i)=some (mp (fun k=>zV l0 (n-1-k)) n)
 |0,i,k,hi,hk=>by
  obtain⟨k',rfl,_⟩:=a8 hk
  rw [show i=n by omega]
  simp only [cY,dF (show¬(0:Int)≤(n:Int)-1-(n:Int) by omega),bO]
 |t+1,i,k,hi,hk=>by
  obtain⟨k',rfl,_⟩:=a8 hk
  have ap:qD (mp (fun k=>zV l0 (n-1-k)) i) [zV l0 (n-1-i)]=some (mp (fun k=>zV l0 (n-1-k)) (i+1)):=apM (g:=fun k=>zV l0 (n-1-k)) (i:=i) (by omega)
  have e:(n:Int)-1-i=((n-1-i:Nat):Int):=by omega
  have e2:aP (((n-1-i:Nat):Int)-1)=some ((n:Int)-1-((i+1:Nat):Int)):=by rw [kM (by omega)];congr 1;omega
  rw [e]
  simp only [cY,dT (show(0:Int)≤((n-1-i:Nat):Int) by omega),bT,dV (f:=zV l0) (n:=n) (i:=n-1-i) (by omega),oB,ap,e2]
  exact aJ8 hn K t (i+1) k' (by omega) (by omega)
theorem aPl {l0:List aA} {g:Nat→Nat} {n:Nat} (hg:∀i,i<n→g i<l0.length):Pl l0 (mp (fun k=>zV l0 (g k)) n):=fun r hr=>by
 obtain⟨i,hi,rfl⟩:=List.mem_map.1 hr
 exact⟨g i,hg i (List.mem_range.1 hi),rfl⟩
theorem aCV {a0:List Int} {a1:Bool} {a2:Int} (h0:aHV a0) (h2:-9223372036854775808≤a2∧a2≤9223372036854775807):∃K,jD K a0 a1 a2=some true:=by
 obtain⟨s,hs,hf,hl4,hm⟩:=aNi h0 a1
 have hsb:=hs.sbd
 have hrl:=hs.rl
 have hll:=hs.ll
 have hn4:=hs.n4
 refine(?_:Ev (fun K=>jD K a0 a1 a2) true).get
 unfold jD
 refine Ev.bind hm ⟨7000,fun K hK=>?_⟩
 have hl:=aOe (K-40)
 rw [show K-40+40=K by omega] at hl
 have h8:∀j,j<s.dofs.length→Bd 8 (oA s.load j):=fun j hj=>hs.load _ (wI (by omega))
 have hinv:=aG2 hf
 generalize hn:s.rows.length=n at *
 have l1:=aJH (s:=s) (by omega) K n 0 K (by omega) (by omega)
 have l2:=aJ8 (l0:=s.rows) (n:=n) (by omega) K n 0 K (by omega) (by omega)
 simp only [Int.natCast_zero,hn] at l1
 have c1:aP ((n:Int)-1)=some ((n:Int)-1-((0:Nat):Int)):=by rw [kM (by omega)];congr 1;omega
 have A:Pl s.rows (mp (fun k=>zV s.rows (id k)) n):=aPl fun i hi=>by show i<s.rows.length;omega
 have B:Pl s.rows (mp (fun k=>zV s.rows (n-1-k)) n):=aPl fun i hi=>by omega
 have eA:mp (fun k=>zV s.rows (id k)) n=mp (zV s.rows) n:=rfl
 have rA:∀i,i<n→(gH (mp (zV s.rows) n) i)=zV s.rows i:=fun i hi=>aNC (g:=id) hi
 have rB:∀i,i<n→(gH (mp (fun k=>zV s.rows (n-1-k)) n) i)=zV s.rows (n-1-i):=fun i hi=>aNC (g:=fun k=>n-1-k) hi
 rw [eA] at A
 obtain⟨SA,z1,s1,b1,k1⟩:=aC4 A hsb hf (by rw [bF];omega) h8 (show 6000≤K by omega)
 obtain⟨SB',z2,s2,b2,k2⟩:=aC4 B hsb hf (by rw [bF];omega) h8 (show 6000≤K by omega)
 have e12:=aHs hinv A.plain B.plain SA.ir SB'.ir (fun i hi=>by
  rw [bF] at hi
  exact⟨n-1-i,by rw [bF];omega,by rw [rA i hi,rB (n-1-i) (by omega),show n-1-(n-1-i)=i by omega]⟩) (fun i hi=>by
  rw [bF] at hi
  exact⟨n-1-i,by rw [bF];omega,by rw [rB i hi,rA (n-1-i) (by omega)]⟩) k1 k2
 have q12:=aIJ b1 (by omega) (by rw [bF];omega) (K:=K) (by rw [bF];omega)
 have cA:∀L,Pl s.rows L→L.length≤5→(∀i,i<n→∃k,k<L.length∧(gH L k).j=(gH s.rows i).j)→∀p2 p3,eV K s (mp (acc s.dofs (oA s.load) (mp (zV s.rows) n) (pz s.v (mp (zV s.rows) n) z1)) s.dofs.length,p2,0) (mp (acc s.dofs (oA s.load) (mp (zV s.rows) n) (pz s.v (mp (zV s.rows) n) z1)) s.dofs.length,p3,0) L=some true:=fun L hL hL5 hcov p2 p3=>by
  obtain⟨SC,z3,s3,b3,k3⟩:=aC4 hL hsb hf hL5 h8 (show 6000≤K by omega)
  have e13:=aHs hinv A.plain hL.plain SA.ir SC.ir (fun i hi=>by
   rw [bF] at hi
   obtain⟨k,a,b⟩:=hcov i hi
   exact⟨k,a,by rw [b,rA i hi];rfl⟩) (fun i hi=>by
   obtain⟨m,m1,m2⟩:=hL _ (k8 hi)
   exact⟨m,by rw [bF];omega,by rw [rA m (by omega),m2]⟩) k1 k3
  rw [←e13] at s3
  simp only [eV,s3,oB,qT (rfl:(0:Int)=0),bT,q12,bF,qT (rfl:(s.dofs.length:Int)=s.dofs.length),hl]
 rw [←e12] at s2
 have l1':cZ K s K ([]:List aA) 0=some (mp (zV s.rows) n):=l1
 simp only [l1',oB,jQ,bF,c1]
 have l2':cY K (mp (zV s.rows) n) K ([]:List aA) ((n:Int)-1-((0:Nat):Int))=some (mp (fun k=>zV s.rows (n-1-k)) n):=l2
 simp only [l2',oB,jT,s1,s2,bF]
 by_cases hp:0<n
 ·obtain⟨r',g1,g2,g3⟩:=aFm (x:=a2) (m:=(n:Int)) h2 (by omega)
  obtain⟨r,rfl⟩:∃r:Nat,r'=(r:Int):=⟨r'.toNat,by omega⟩
  have x1:qD ([]:List aA) (mp (zV s.rows) n)=some (mp (zV s.rows) n):=by rw [aAa (by rw [bF];simp;omega)];rfl
  simp only [dT (show(0:Int)<(n:Int) by omega),bT,x1,oB,g1,dV (f:=zV s.rows) (n:=n) (i:=r) (by omega),apS (xs:=mp (zV s.rows) n) (x:=zV s.rows r) (by rw [bF];omega)]
  refine cA _ (fun x hx=>?_) (by rw [List.length_append,bF];simp;omega) (fun i hi=>⟨i,by rw [List.length_append,bF];omega,?_⟩) _ _
  ·rcases List.mem_append.1 hx with h1|h1
   ·exact A x h1
   ·rw [List.mem_singleton.1 h1];exact⟨r,by omega,rfl⟩
  ·have:gH (mp (zV s.rows) n++[zV s.rows r]) i=zV s.rows i:=by
    unfold gH
    rw [List.getD_eq_getElem?_getD,List.getElem?_append_left (by rw [bF];exact hi),yR hi];rfl
   rw [this];rfl
 ·simp only [dF (show¬(0:Int)<(n:Int) by omega),bO]
  exact cA _ A (by rw [bF];omega) (fun i hi=>by omega) _ _
end Go.Proofs.YtcjdedkdoagifaaGreat
