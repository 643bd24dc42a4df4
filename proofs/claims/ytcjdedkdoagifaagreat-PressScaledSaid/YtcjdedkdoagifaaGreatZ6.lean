/- Texts of the proof, part 6: XX XY YE YF YG YH YI YJ YK YL YM XZ YN YO YP YQ YS YT YU. -/
import Derived.Test.YtcjdedkdoagifaaGreatZ5
set_option linter.unusedVariables false
namespace Go.Proofs.YtcjdedkdoagifaaGreat
/-- The rows as they lie, and where. -/
def yQ (G:Nat→Nat→Rat) (N:Nat):List (List Rat):=[]::mx G N N
def zO (N:Nat):List Nat:=mp (fun i=>i+1) N
theorem aA5 {G:Nat→Nat→Rat} {N i:Nat} (h:i<N):(yQ G N).getD (i+1) []=mp (G i) N:=by
 unfold yQ mx
 rw [List.getD_eq_getElem?_getD,List.getElem?_cons_succ,z5 h];rfl
theorem aDd {G:Nat→Nat→Rat} {N i:Nat} {f:Nat→Rat}:(yQ G N).set (i+1) (mp f N)=yQ (jI G i f) N:=by
 unfold yQ
 rw [List.set_cons_succ]
 unfold mx
 rw [aMh,aO9];rfl
theorem tW {G H:Nat→Nat→Rat} {N:Nat} (h:∀i c,i<N→c<N→G i c=H i c):yQ G N=yQ H N:=by
 unfold yQ;rw [aLQ h]
theorem aPb {G:Nat→Nat→Rat} {N:Nat}:aD0 (yQ G N) (zO N)=mx G N N:=by
 unfold aD0 zO mp mx
 rw [List.map_map]
 unfold mp
 refine List.map_congr_left fun i hi=>?_
 exact aA5 (List.mem_range.1 hi)
theorem rdO {N i:Nat} (h:i<N):bK (zO N) (i:Int)=some (i+1):=dW h
theorem aKt {v:List Rat} {l:List aA} {m:Nat} (hm:m≤100) (K:Nat):∀(t i k:Nat),i+t=off v l m→t<k→fD K ((w8 v l m).map pu) (mp (fun _=>(0:Nat)) (off v l m)) k (mp (fun j=>if j<i then j+1 else 0) (off v l m)) ([]::mx (fun _=>z0) i (off v l m)) (i:Int)=some (zO (off v l m),yQ (fun _=>z0) (off v l m))
 |0,i,k,hi,hk=>by
  obtain⟨k',rfl,_⟩:=aZ hk
  have e:i=off v l m:=by omega
  subst e
  simp only [fD,cB,dF (show¬(off v l m:Int)<(off v l m:Int) by omega),bN]
  have:mp (fun j=>if j<off v l m then j+1 else 0) (off v l m)=zO (off v l m):=bV fun j hj=>if_pos hj
  rw [this];rfl
 |t+1,i,k,hi,hk=>by
  obtain⟨k',rfl,_⟩:=aZ hk
  have hil:i<off v l m:=by omega
  have h4:=qR (v:=v) (l:=l) m
  have e0:([]::mx (fun _=>z0) i (off v l m)).length=i+1:=by rw [List.length_cons,tS]
  have e1:nL (mp (fun j=>if j<i then j+1 else 0) (off v l m)) (i:Int) (i+1)=some (mp (fun j=>if j<i+1 then j+1 else 0) (off v l m)):=by
   rw [rF hil]
   congr 1
   refine bV fun j _=>?_
   by_cases e:j=i
   ·subst e;rw [bD,if_pos (by omega)]
   ·rw [cZ e]
    by_cases hlt:j<i
    ·rw [if_pos hlt,if_pos (by omega)]
    ·rw [if_neg hlt,if_neg (by omega)]
  have e2:([]::mx (fun _=>z0) i (off v l m))++[mp (fun _=>(0:Rat)) (off v l m)]=[]::mx (fun _=>z0) (i+1) (off v l m):=by
   show []::(mx (fun _=>z0) i (off v l m)++_)=_
   unfold mx
   rw [aCA];rfl
  simp only [fD,cB,dT (show(i:Int)<(off v l m:Int) by omega),bW,sI,aAx (z:=(0:Rat)) (n:=off v l m) (by omega),oB,dW (f:=fun j=>if j<i then j+1 else 0) hil,e0,e1,e2,mF (i:=i) (by omega)]
  exact aKt hm K t (i+1) k' (by omega) (by omega)
theorem aMo {g:Nat→Rat} {N i:Nat} {w:Rat} (h:i<N):f7 (mp g N) (i:Int) w=some (mp (jI g i w) N):=by
 simp only [f7,dW (f:=g) h,rF (f:=g) h,oB]
theorem aPD {w:Nat→Rat} {N i:Nat}:mp (jI (fun j=>if j<i then w j else 0) i (w i)) N=mp (fun j=>if j<i+1 then w j else 0) N:=bV fun j _=>by
 by_cases e:j=i
 ·subst e;rw [bD,if_pos (by omega)]
 ·rw [cZ e]
  by_cases hlt:j<i
  ·rw [if_pos hlt,if_pos (by omega)]
  ·rw [if_neg hlt,if_neg (by omega)]
theorem aQO {w:Nat→Rat} {N i:Nat} (h:w i=0):mp (fun j=>if j<i then w j else 0) N=mp (fun j=>if j<i+1 then w j else 0) N:=bV fun j _=>by
 by_cases e:j=i
 ·subst e;rw [if_neg (by omega),if_pos (by omega),h]
 ·by_cases hlt:j<i
  ·rw [if_pos hlt,if_pos (by omega)]
  ·rw [if_neg hlt,if_neg (by omega)]
theorem rv0 {v:List Rat} {l:List aA} {a:List Rat} {r q k:Nat} (hq:vq v l r q) (hr:r<l.length) (hk:k=off v l r+q):rv v l a k=if q=0 then rt (lH l r).j a else if q=1 then rt (lH l r).t a else if q=2 then -(rt (lH l r).t a) else 0:=by
 unfold rv;rw [hk,aH4 hq hr]
theorem aLb {d:List aG} {f v a:List Rat} {l:List aA} {B:Nat} (hl:RsC l) (ha:u7 B a) (hB:B≤10000000) (hn:l.length≤100) {K:Nat} (hK:13≤K):∀(t k fu:Nat),k+t=off v l l.length→t<fu→bT K a ((w8 v l l.length).map pu) ⟨d,f,v,l⟩ fu (mp (fun j=>if j<k then rv v l a j else 0) (off v l l.length)) (k:Int)=some (mp (rv v l a) (off v l l.length))
 |0,k,fu,hi,hk=>by
  obtain⟨k',rfl,_⟩:=aZ hk
  have e:k=off v l l.length:=by omega
  subst e
  simp only [bT,sI,dF (show¬(off v l l.length:Int)<(off v l l.length:Int) by omega),bN]
  exact congrArg some (bV fun j hj=>if_pos hj)
 |t+1,k,fu,hi,hk=>by
  obtain⟨k',rfl,_⟩:=aZ hk
  have hkl:k<off v l l.length:=by omega
  have h4:=qR (v:=v) (l:=l) l.length
  obtain⟨r,q,h1,h2,h3⟩:=sP l.length k hkl
  have hq3:=vq3 h2
  have hu:=rdU (m:=l.length) h2 h1
  rw [←h3] at hu
  have hr:=hl _ (pN h1)
  have hrv:=rv0 (a:=a) h2 h1 h3
  have ih:=aLb (d:=d) (f:=f) (v:=v) hl ha hB hn hK t (k+1) k' (by omega) (by omega)
  have bt:=z7 ha hr.1.2
  simp only [bT,sI,dT (show(k:Int)<(off v l l.length:Int) by omega),bW,hu,oB,aBo h1]
  have hcase:q=0∨q=1∨q=2∨q=3:=by omega
  rcases hcase with rfl|rfl|rfl|rfl
  ·have e:rv v l a k=rt (lH l r).j a:=hrv
   simp only [qT (show((0:Nat):Int)=0 from rfl),bW,wR ha (by omega) hr.1.1 hK,oB,aMo (g:=fun j=>if j<k then rv v l a j else 0) hkl,mF (i:=k) (by omega)]
   rw [←e,aPD];exact ih
  ·have e:rv v l a k=rt (lH l r).t a:=hrv
   simp only [qF (show((1:Nat):Int)≠0 by omega),qT (show((1:Nat):Int)=1 from rfl),bN,bW,wR ha (by omega) hr.1.2 hK,oB,aMo (g:=fun j=>if j<k then rv v l a j else 0) hkl,mF (i:=k) (by omega)]
   rw [←e,aPD];exact ih
  ·have e:rv v l a k=-(rt (lH l r).t a):=hrv
   simp only [qF (show((2:Nat):Int)≠0 by omega),qF (show((2:Nat):Int)≠1 by omega),qT (show((2:Nat):Int)=2 from rfl),bN,bW,wR ha (by omega) hr.1.2 hK,oB,aBL bt (by omega),aMo (g:=fun j=>if j<k then rv v l a j else 0) hkl,mF (i:=k) (by omega)]
   rw [←e,aPD];exact ih
  ·have e:rv v l a k=0:=hrv
   simp only [qF (show((3:Nat):Int)≠0 by omega),qF (show((3:Nat):Int)≠1 by omega),qF (show((3:Nat):Int)≠2 by omega),bN,oB,mF (i:=k) (by omega)]
   rw [aQO e];exact ih
def adc (G:Nat→Nat→Rat) (k:Nat) (w:Nat→Rat) (t i c:Nat):Rat:=if c=k∧i<t then G i c+w i else G i c
theorem aKQ {G:Nat→Nat→Rat} {N i k BG BW:Nat} {w:Rat} (hi:i<N) (hk:k<N) (hG:Bd BG (G i k)) (hw:Bd BW w) (h1:BG≤1073741824) (h2:BW≤1073741824):fX (zO N,yQ G N) (k:Int) (i:Int) w=some (zO N,yQ (jI G i (jI (G i) k (G i k+w))) N):=by
 simp only [fX,rdO hi,oB,aA5 hi,dW (f:=G i) hk,vG hG hw h1 h2,rF (f:=G i) hk,aDd]
theorem aDp {G:Nat→Nat→Rat} {k t N:Nat} {w:Nat→Rat}:yQ (jI (adc G k w t) t (jI (adc G k w t t) k (adc G k w t t k+w t))) N=yQ (adc G k w (t+1)) N:=tW fun i c _ _=>by
 by_cases e:i=t
 ·subst e
  rw [bD]
  by_cases h:c=k
  ·subst h
   rw [bD]
   unfold adc
   rw [if_neg (by omega),if_pos ⟨rfl,by omega⟩]
  ·rw [cZ h]
   unfold adc
   rw [if_neg (fun h2=>h h2.1),if_neg (fun h2=>h h2.1)]
 ·rw [cZ e]
  unfold adc
  by_cases h:c=k∧i<t
  ·rw [if_pos h,if_pos ⟨h.1,by omega⟩]
  ·rw [if_neg h,if_neg fun h2=>h ⟨h2.1,by omega⟩]
theorem aMa {G:Nat→Nat→Rat} {k t N:Nat} {w:Nat→Rat} (h0:w t=0):yQ (adc G k w t) N=yQ (adc G k w (t+1)) N:=tW fun i c _ _=>by
 unfold adc
 by_cases h:c=k∧i<t
 ·rw [if_pos h,if_pos ⟨h.1,by omega⟩]
 ·rw [if_neg h]
  by_cases h2:c=k∧i<t+1
  ·have:i=t:=by
    by_cases e:i=t
    ·exact e
    ·exact absurd ⟨h2.1,by omega⟩ h
   rw [if_pos h2,this,h0,Rat.add_zero]
  ·rw [if_neg h2]
theorem aKx {d:List aG} {f v a:List Rat} {l:List aA} {G:Nat→Nat→Rat} {c B BG:Nat} (hl:RsC l) (ha:u7 B a) (hB:B≤10000000) (hn:l.length≤100) (hc:c<off v l l.length) (hG:∀i,i<off v l l.length→Bd BG (G i c)) (hBG:BG≤1073741824) {K:Nat} (hK:13≤K):∀(t k fu:Nat),k+t=off v l l.length→t<fu→bR K a (c:Int) ((w8 v l l.length).map pu) ⟨d,f,v,l⟩ fu (zO (off v l l.length)) (yQ (adc G c (rv v l a) k) (off v l l.length)) (k:Int)=some (zO (off v l l.length),yQ (adc G c (rv v l a) (off v l l.length)) (off v l l.length))
 |0,k,fu,hi,hk=>by
  obtain⟨k',rfl,_⟩:=aZ hk
  have e:k=off v l l.length:=by omega
  subst e
  simp only [bR,sI,dF (show¬(off v l l.length:Int)<(off v l l.length:Int) by omega),bN]
 |t+1,k,fu,hi,hk=>by
  obtain⟨k',rfl,_⟩:=aZ hk
  have hkl:k<off v l l.length:=by omega
  have h4:=qR (v:=v) (l:=l) l.length
  obtain⟨r,q,h1,h2,h3⟩:=sP l.length k hkl
  have hq3:=vq3 h2
  have hu:=rdU (m:=l.length) h2 h1
  rw [←h3] at hu
  have hr:=hl _ (pN h1)
  have hrv:=rv0 (a:=a) h2 h1 h3
  have ih:=aKx (d:=d) (f:=f) hl ha hB hn hc hG hBG hK t (k+1) k' (by omega) (by omega)
  have bj:=z7 ha hr.1.1
  have bt:=z7 ha hr.1.2
  have hGk:Bd BG (adc G c (rv v l a) k k c):=by unfold adc;rw [if_neg (by omega)];exact hG k hkl
  simp only [bR,sI,dT (show(k:Int)<(off v l l.length:Int) by omega),bW,hu,oB,aBo h1]
  have hcase:q=0∨q=1∨q=2∨q=3:=by omega
  rcases hcase with rfl|rfl|rfl|rfl
  ·have e:rv v l a k=rt (lH l r).j a:=hrv
   simp only [qT (show((0:Nat):Int)=0 from rfl),bW,wR ha (by omega) hr.1.1 hK,oB,aKQ hkl hc hGk bj hBG (by omega),mF (i:=k) (by omega)]
   rw [←e,aDp];exact ih
  ·have e:rv v l a k=rt (lH l r).t a:=hrv
   simp only [qF (show((1:Nat):Int)≠0 by omega),qT (show((1:Nat):Int)=1 from rfl),bN,bW,wR ha (by omega) hr.1.2 hK,oB,aKQ hkl hc hGk bt hBG (by omega),mF (i:=k) (by omega)]
   rw [←e,aDp];exact ih
  ·have e:rv v l a k=-(rt (lH l r).t a):=hrv
   simp only [qF (show((2:Nat):Int)≠0 by omega),qF (show((2:Nat):Int)≠1 by omega),qT (show((2:Nat):Int)=2 from rfl),bN,bW,wR ha (by omega) hr.1.2 hK,oB,aBL bt (by omega),aKQ hkl hc hGk bt.neg hBG (by omega),mF (i:=k) (by omega)]
   rw [←e,aDp];exact ih
  ·have e:rv v l a k=0:=hrv
   simp only [qF (show((3:Nat):Int)≠0 by omega),qF (show((3:Nat):Int)≠1 by omega),qF (show((3:Nat):Int)≠2 by omega),bN,oB,mF (i:=k) (by omega)]
   rw [aMa e];exact ih
theorem aP7 {d:List aG} {f v a:List Rat} {l:List aA} {G:Nat→Nat→Rat} {c B BG:Nat} (hl:RsC l) (ha:u7 B a) (hB:B≤10000000) (hn:l.length≤100) (hc:c<off v l l.length) (hG:∀i,i<off v l l.length→Bd BG (G i c)) (hBG:BG≤1073741824) {K:Nat} (hK:5000≤K):b0 K a (c:Int) ((w8 v l l.length).map pu) ⟨d,f,v,l⟩ (zO (off v l l.length)) (yQ G (off v l l.length))=some (zO (off v l l.length),yQ (adc G c (rv v l a) (off v l l.length)) (off v l l.length)):=by
 have h4:=qR (v:=v) (l:=l) l.length
 have e:yQ (adc G c (rv v l a) 0) (off v l l.length)=yQ G (off v l l.length):=tW fun i c' _ _=>if_neg (by omega)
 have:=aKx (d:=d) (f:=f) hl ha hB hn hc hG hBG (K:=K) (by omega) (off v l l.length) 0 K (by omega) (by omega)
 rw [e] at this
 simp only [Int.natCast_zero] at this
 simp only [b0,this,oB,iM]
theorem uC {v:List Rat} {l:List aA} {r q r' q':Nat} (h:vq v l r q) (h':vq v l r' q'):ek (off v l r+q) (off v l r'+q')=if r'=r∧q'=q then 1 else 0:=by
 unfold ek
 by_cases e:r'=r∧q'=q
 ·rw [if_pos e,e.1,e.2,bD]
 ·rw [if_neg e,cZ fun h3=>e (aCC h' h h3)];rfl
theorem aIi {v:List Rat} {l:List aA} {z:Nat→Rat} {i:Nat} (h0:z (off v l i)=0) (h1:zK v (lH l i)=true→z (off v l i+1)=0∧z (off v l i+2)=0):pz v l z i=⟨0,0⟩:=by
 unfold pz
 rw [h0]
 split
 ·rfl
 ·rename_i ht
  split
  ·rw [Rat.mul_zero,Rat.mul_zero]
  ·rename_i hs
   have hst:zK v (lH l i)=true:=by
    unfold zK
    rw [decide_eq_true (show 0<(lH l i).t.length by omega),decide_eq_true (show(rt (lH l i).t v).num.sign=0 from Decidable.of_not_not hs)];rfl
   rw [(h1 hst).1,(h1 hst).2,Rat.sub_self]
theorem aGe {v:List Rat} {l:List aA} {r q i:Nat} (h:vq v l r q) (hi:i≠r):pz v l (ek (off v l r+q)) i=⟨0,0⟩:=
 aIi (by have:=uC h (r':=i) (q':=0) (.inl rfl);rw [Nat.add_zero] at this;rw [this,if_neg fun h=>hi h.1]) fun hs=>
  ⟨by rw [uC h (.inr ⟨hs,by omega⟩),if_neg fun h=>hi h.1],by rw [uC h (.inr ⟨hs,by omega⟩),if_neg fun h=>hi h.1]⟩
theorem aKp {v:List Rat} {l:List aA} {r q:Nat} {x:aF} (h:vq v l r q) (hx:pz v l (ek (off v l r+q)) r=x):mp (jI p0 r x) l.length=mp (pz v l (ek (off v l r+q))) l.length:=bV fun i _=>by
 by_cases e:i=r
 ·rw [e,bD,hx]
 ·rw [cZ e,aGe h e];rfl
theorem aHS {v:List Rat} {r:aA} (h:zK v r=true):r.t.length≠0∧(rt r.t v).num.sign=0:=by
 unfold zK at h
 rw [Bool.and_eq_true] at h
 have h1:=of_decide_eq_true h.1
 exact⟨by omega,of_decide_eq_true h.2⟩
def bc (v:List Rat) (l:List aA) (k:Nat) (i:Nat):Rat:=zv v l (ek k) i
theorem zv0 {v:List Rat} {l:List aA} {z:Nat→Rat} {r q k:Nat} (hq:vq v l r q) (hr:r<l.length) (hk:k=off v l r+q):zv v l z k=if q=0 then 0 else if q=1 then z (k+2) else if q=2 then z (k+1) else(lH l r).mu*z (k-3)-(z (k-2)+z (k-1)):=by
 unfold zv;rw [hk,aH4 hq hr]
theorem vqs {v:List Rat} {l:List aA} {r q p:Nat} (h:vq v l r q) (hq:q≠0) (hp:p≤3):vq v l r p:=by
 rcases h with h|h
 ·exact absurd h hq
 ·exact .inr ⟨h.1,hp⟩
theorem aGL {v:List Rat} {l:List aA} {r q r' q':Nat} (h:vq v l r q) (h':vq v l r' q') (hr':r'<l.length):zv v l (ek (off v l r+q)) (off v l r'+q')=if q'=0 then 0 else if q'=1 then(if r'=r∧3=q then 1 else 0) else if q'=2 then(if r'=r∧3=q then 1 else 0) else(lH l r').mu*(if r'=r∧0=q then 1 else 0)-((if r'=r∧1=q then 1 else 0)+(if r'=r∧2=q then 1 else 0)):=by
 rw [zv0 h' hr' rfl]
 have hq3:=vq3 h'
 have hcase:q'=0∨q'=1∨q'=2∨q'=3:=by omega
 rcases hcase with rfl|rfl|rfl|rfl
 ·rfl
 ·show ek _ (off v l r'+3)=_
  rw [uC h (vqs h' (by omega) (by omega))];rfl
 ·show ek _ (off v l r'+3)=_
  rw [uC h (vqs h' (by omega) (by omega))];rfl
 ·show(lH l r').mu*ek _ (off v l r'+0)-(ek _ (off v l r'+1)+ek _ (off v l r'+2))=_
  rw [uC h (vqs h' (by omega) (by omega)),uC h (vqs h' (by omega) (by omega)),uC h (vqs h' (by omega) (by omega))];rfl
theorem aCO {v:List Rat} {l:List aA} {g:Nat→Rat} {x:Rat} {r q r' q':Nat} (h:vq v l r q) (h':vq v l r' q'):jI g (off v l r+q) x (off v l r'+q')=if r'=r∧q'=q then x else g (off v l r'+q'):=by
 by_cases e:r'=r∧q'=q
 ·rw [if_pos e,e.1,e.2,bD]
 ·rw [if_neg e,cZ fun h3=>e (aCC h' h h3)]
theorem aRa {v:List Rat} {l:List aA} {r i:Nat} (hs:zK v (lH l r)=true) (hi:i<off v l l.length):bc v l (off v l r) i=jI z0 (off v l r+3) (lH l r).mu i:=by
 obtain⟨r',q',h1,h2,rfl⟩:=sP l.length i hi
 have hq3:=vq3 h2
 have:=aGL (v:=v) (l:=l) (r:=r) (q:=0) (.inl rfl) h2 h1
 rw [Nat.add_zero] at this
 unfold bc
 rw [this,aCO (.inr ⟨hs,by omega⟩) h2]
 have hcase:q'=0∨q'=1∨q'=2∨q'=3:=by omega
 rcases hcase with rfl|rfl|rfl|rfl
 ·simp [z0]
 ·simp [z0]
 ·simp [z0]
 ·by_cases e:r'=r
  ·subst e;simp [Rat.sub_eq_add_neg,Rat.add_zero,Rat.zero_add,Rat.neg_zero,Rat.mul_zero,Rat.mul_one]
  ·simp [e,z0,Rat.sub_eq_add_neg,Rat.add_zero,Rat.zero_add,Rat.neg_zero,Rat.mul_zero,Rat.mul_one]
theorem aPc {v:List Rat} {l:List aA} {r i:Nat} (hs:zK v (lH l r)=false) (hi:i<off v l l.length):bc v l (off v l r) i=0:=by
 obtain⟨r',q',h1,h2,rfl⟩:=sP l.length i hi
 have hq3:=vq3 h2
 have:=aGL (v:=v) (l:=l) (r:=r) (q:=0) (.inl rfl) h2 h1
 rw [Nat.add_zero] at this
 unfold bc
 rw [this]
 have hcase:q'=0∨q'=1∨q'=2∨q'=3:=by omega
 rcases hcase with rfl|rfl|rfl|rfl
 ·simp
 ·simp
 ·simp
 ·have e:r'≠r:=fun e=>by
   rcases h2 with h|h
   ·omega
   ·rw [e,hs] at h;exact absurd h.1 (by decide)
  simp [e,Rat.sub_eq_add_neg,Rat.add_zero,Rat.zero_add,Rat.neg_zero,Rat.mul_zero,Rat.mul_one]
theorem aRk {v:List Rat} {l:List aA} {r i:Nat} (h:vq v l r 1) (hi:i<off v l l.length):bc v l (off v l r+1) i=jI z0 (off v l r+3) (-1) i:=by
 obtain⟨r',q',h1,h2,rfl⟩:=sP l.length i hi
 have hq3:=vq3 h2
 unfold bc
 rw [aGL h h2 h1,aCO (vqs h (by omega) (by omega)) h2]
 have hcase:q'=0∨q'=1∨q'=2∨q'=3:=by omega
 rcases hcase with rfl|rfl|rfl|rfl
 ·simp [z0]
 ·simp [z0]
 ·simp [z0]
 ·by_cases e:r'=r
  ·subst e;simp [Rat.sub_eq_add_neg,Rat.add_zero,Rat.zero_add,Rat.neg_zero,Rat.mul_zero,Rat.mul_one]
  ·simp [e,z0,Rat.sub_eq_add_neg,Rat.add_zero,Rat.zero_add,Rat.neg_zero,Rat.mul_zero,Rat.mul_one]
theorem aRl {v:List Rat} {l:List aA} {r i:Nat} (h:vq v l r 2) (hi:i<off v l l.length):bc v l (off v l r+2) i=jI z0 (off v l r+3) (-1) i:=by
 obtain⟨r',q',h1,h2,rfl⟩:=sP l.length i hi
 have hq3:=vq3 h2
 unfold bc
 rw [aGL h h2 h1,aCO (vqs h (by omega) (by omega)) h2]
 have hcase:q'=0∨q'=1∨q'=2∨q'=3:=by omega
 rcases hcase with rfl|rfl|rfl|rfl
 ·simp [z0]
 ·simp [z0]
 ·simp [z0]
 ·by_cases e:r'=r
  ·subst e;simp [Rat.sub_eq_add_neg,Rat.add_zero,Rat.zero_add,Rat.neg_zero,Rat.mul_zero,Rat.mul_one]
  ·simp [e,z0,Rat.sub_eq_add_neg,Rat.add_zero,Rat.zero_add,Rat.neg_zero,Rat.mul_zero,Rat.mul_one]
theorem aQK {v:List Rat} {l:List aA} {r i:Nat} (h:vq v l r 3) (hi:i<off v l l.length):bc v l (off v l r+3) i=jI (jI z0 (off v l r+1) 1) (off v l r+2) 1 i:=by
 obtain⟨r',q',h1,h2,rfl⟩:=sP l.length i hi
 have hq3:=vq3 h2
 unfold bc
 rw [aGL h h2 h1,aCO (vqs h (by omega) (by omega)) h2,aCO (vqs h (by omega) (by omega)) h2]
 have hcase:q'=0∨q'=1∨q'=2∨q'=3:=by omega
 rcases hcase with rfl|rfl|rfl|rfl
 ·simp [z0]
 ·by_cases e:r'=r<;>simp [e,z0]
 ·by_cases e:r'=r<;>simp [e,z0]
 ·simp [z0,Rat.sub_eq_add_neg,Rat.add_zero,Rat.zero_add,Rat.neg_zero,Rat.mul_zero,Rat.mul_one]
end Go.Proofs.YtcjdedkdoagifaaGreat
set_option linter.unusedVariables false
namespace Go.Proofs.YtcjdedkdoagifaaGreat
def zR (G:Nat→Nat→Rat) (k:Nat) (b:Nat→Rat) (i c:Nat):Rat:=if c=k then b i else G i c
def gk (M:Nat→Nat→Rat) (k i c:Nat):Rat:=if c<k then M i c else 0
theorem aBm {M:Nat→Nat→Rat} {k:Nat}:zR (gk M k) k z0=gk M k:=by
 funext i c
 unfold zR gk z0
 by_cases h:c=k
 ·rw [if_pos h,if_neg (by omega)]
 ·rw [if_neg h]
theorem aML {G:Nat→Nat→Rat} {k i:Nat} {b:Nat→Rat}:zR G k b i k=b i:=if_pos rfl
theorem aBB {G:Nat→Nat→Rat} {k j N:Nat} {b:Nat→Rat} {x:Rat}:yQ (jI (zR G k b) j (jI (zR G k b j) k x)) N=yQ (zR G k (jI b j x)) N:=tW fun i c _ _=>by
 by_cases e:i=j
 ·subst e
  rw [bD]
  by_cases h:c=k
  ·subst h;rw [bD];unfold zR;rw [if_pos rfl,bD]
  ·rw [cZ h];unfold zR;rw [if_neg h,if_neg h]
 ·rw [cZ e]
  unfold zR
  by_cases h:c=k
  ·rw [if_pos h,if_pos h,cZ e]
  ·rw [if_neg h,if_neg h]
theorem aPk {M:Nat→Nat→Rat} {k N:Nat} {b w:Nat→Rat} (h:∀i,i<N→M i k=b i+w i):yQ (adc (zR (gk M k) k b) k w N) N=yQ (gk M (k+1)) N:=tW fun i c hi _=>by
 unfold adc zR gk
 by_cases e:c=k
 ·subst e;rw [if_pos ⟨rfl,hi⟩,if_pos rfl,if_pos (by omega),h i hi]
 ·rw [if_neg fun h2=>e h2.1,if_neg e]
  by_cases e2:c<k
  ·rw [if_pos e2,if_pos (by omega)]
  ·rw [if_neg e2,if_neg (by omega)]
theorem aNe {M:Nat→Nat→Rat} {k N:Nat} {b:Nat→Rat} (h:∀i,i<N→M i k=b i):yQ (zR (gk M k) k b) N=yQ (gk M (k+1)) N:=tW fun i c hi _=>by
 unfold zR gk
 by_cases e:c=k
 ·subst e;rw [if_pos rfl,if_pos (by omega),h i hi]
 ·rw [if_neg e]
  by_cases e2:c<k
  ·rw [if_pos e2,if_pos (by omega)]
  ·rw [if_neg e2,if_neg (by omega)]
theorem aCv {d:List aG} {f v:List Rat} {l:List aA} (h:ScB d f v l) {k:Nat} (hk:k<off v l l.length) {b:Nat→Rat} (hb:∀i,i<off v l l.length→bc v l k i=b i) (hbb:∀i,Bd 8 (b i)) {K:Nat} (hK:5000≤K):
  bE K ⟨d,f,v,l⟩ (mp z0 d.length) (mp (pz v l (ek k)) l.length)=some (mp (acc d z0 l (pz v l (ek k))) d.length)∧
  b0 K (mp (acc d z0 l (pz v l (ek k))) d.length) (k:Int) ((w8 v l l.length).map pu) ⟨d,f,v,l⟩ (zO (off v l l.length)) (yQ (zR (gk (Mf d v l) k) k b) (off v l l.length))=some (zO (off v l l.length),yQ (gk (Mf d v l) (k+1)) (off v l l.length)):=by
 have h8:=h.m8
 have hn:=h.n8
 have hp:=aET (l:=l) (v:=v) (z:=ek k) (C:=1) (fun k _=>aJl) h.sb.sl
 have hrb:RsB l:=fun r hr=>(h.sb.sl r hr).1
 have hc:(2*1+11+9)*24*l.length≤400000000:=Nat.le_trans (bd8 (C:=1) (Nat.le_refl 1) h8) (by decide)
 have hz:∀j,j<d.length→Bd 1 (z0 j):=fun j _=>Bd.zero
 have hbd:=aDc (p:=pz v l (ek k)) h.sb.sd hz hrb h.ir hp (by omega) (by omega) (by omega) hc
 refine⟨aFE (p:=pz v l (ek k)) h.sb.sd (by omega) hz hrb h.ir (by omega) hp (by omega) hc (by omega),?_⟩
 have e:=aP7 (d:=d) (f:=f) (G:=zR (gk (Mf d v l) k) k b) (c:=k) (BG:=8) h.sb.sl hbd (by unfold aHB;omega) (by omega) hk (fun i hi=>by rw [aML];exact hbb i) (by omega) hK
 rw [e,aPk fun i hi=>?_]
 rw [←hb i hi]
 exact Rat.add_comm _ _
theorem aJu {x:List aF} (hn:x.length≤60000000000):nI x=some x:=by
 unfold nI
 rw [aAj (by simp;omega)];rfl
theorem aFy {j:Nat} {x:Rat} (h:Bd 8 x):∀i,Bd 8 (jI z0 j x i):=fun i=>by
 by_cases e:i=j
 ·rw [e,bD];exact h
 ·rw [cZ e];exact Bd.zero.mono (by omega)
theorem aI2:Bd 8 (-1:Rat):=(show Bd 1 (-1:Rat) by constructor<;>decide).mono (by omega)
theorem aAg:Bd 8 (1:Rat):=(show Bd 1 (1:Rat) by constructor<;>decide).mono (by omega)
theorem aIo:aA4 1=some (-1:Rat):=aBL aAg (by omega)
theorem aP8 {v:List Rat} {l:List aA} {r:Nat}:pz v l (ek (off v l r)) r=⟨1,if(lH l r).t.length=0 then 0 else(((-(rt (lH l r).t v).num.sign:Int):Rat)/((1:Int):Rat))*((lH l r).mu*1)⟩:=by
 have h0:ek (off v l r) (off v l r)=1:=bD
 have hv0:vq v l r 0:=.inl rfl
 unfold pz
 rw [h0]
 by_cases ht:(lH l r).t.length=0
 ·rw [if_pos ht,if_pos ht]
 ·rw [if_neg ht,if_neg ht]
  by_cases hs:(rt (lH l r).t v).num.sign=0
  ·have hst:zK v (lH l r)=true:=by
    unfold zK;rw [decide_eq_true (show 0<(lH l r).t.length by omega),decide_eq_true hs];rfl
   have e1:=uC hv0 (r':=r) (q':=1) (.inr ⟨hst,by omega⟩)
   have e2:=uC hv0 (r':=r) (q':=2) (.inr ⟨hst,by omega⟩)
   rw [Nat.add_zero] at e1 e2
   rw [if_neg (fun h=>h hs),e1,e2,hs]
   have z:((-(0:Int):Int):Rat)/((1:Int):Rat)=0:=by decide+kernel
   rw [z,Rat.zero_mul]
   simp [Rat.sub_self]
  ·rw [if_pos hs]
theorem aPZ {v:List Rat} {l:List aA} {r:Nat} (h:vq v l r 1):pz v l (ek (off v l r+1)) r=⟨0,1⟩:=by
 have hst:zK v (lH l r)=true:=by rcases h with h|h;omega;exact h.1
 obtain⟨s1,s2⟩:=aHS hst
 have e0:ek (off v l r+1) (off v l r)=if r=r∧0=1 then 1 else 0:=uC h (r':=r) (q':=0) (.inl rfl)
 unfold pz
 rw [if_neg s1,if_neg (fun h=>h s2),e0,uC h (r':=r) (q':=1) h,uC h (r':=r) (q':=2) (vqs h (by omega) (by omega))]
 simp [Rat.sub_eq_add_neg,Rat.add_zero,Rat.neg_zero]
theorem aQQ {v:List Rat} {l:List aA} {r:Nat} (h:vq v l r 2):pz v l (ek (off v l r+2)) r=⟨0,-1⟩:=by
 have hst:zK v (lH l r)=true:=by rcases h with h|h;omega;exact h.1
 obtain⟨s1,s2⟩:=aHS hst
 have e0:ek (off v l r+2) (off v l r)=if r=r∧0=2 then 1 else 0:=uC h (r':=r) (q':=0) (.inl rfl)
 unfold pz
 rw [if_neg s1,if_neg (fun h=>h s2),e0,uC h (r':=r) (q':=1) (vqs h (by omega) (by omega)),uC h (r':=r) (q':=2) h]
 simp [Rat.sub_eq_add_neg,Rat.zero_add]
theorem aQ3 {d:List aG} {v:List Rat} {l:List aA} {r i:Nat} (h:vq v l r 3):Mf d v l i (off v l r+3)=bc v l (off v l r+3) i:=by
 unfold Mf bc
 have e:∀r',r'<l.length→pz v l (ek (off v l r+3)) r'=p0 r':=fun r' _=>by
  by_cases e:r'=r
  ·subst e
   have e0:ek (off v l r'+3) (off v l r')=if r'=r'∧0=3 then 1 else 0:=uC h (r':=r') (q':=0) (.inl rfl)
   refine aIi (by rw [e0,if_neg (by omega)]) fun hs=>⟨?_,?_⟩
   ·rw [uC h (r':=r') (q':=1) (vqs h (by omega) (by omega)),if_neg (by omega)]
   ·rw [uC h (r':=r') (q':=2) (vqs h (by omega) (by omega)),if_neg (by omega)]
  ·exact aGe h e
 rw [aED e,aLG,aMy,Rat.zero_add]
theorem aC4 {d:List aG} {f v:List Rat} {l:List aA} {r:aA} {x:Rat} {C:Nat} (hv:u7 64 v) (hr:RC r) (hx:Bd C x) (hC:C≤500000000) {K:Nat} (hK:13≤K):jR K ⟨d,f,v,l⟩ r x=some ((((-(rt r.t v).num.sign:Int):Rat)/((1:Int):Rat))*(r.mu*x)):=by
 have hb:=aI1 (rt r.t v)
 simp only [jR,aJk hv hr.1 hK,oB,kD (show -9223372036854775808≤-(rt r.t v).num.sign∧_ by omega),(qsg _).1,oH hr.2 hx (by omega) (by omega),oH (qsg (rt r.t v)).2 (hr.2.mul hx) (by omega) (by omega)]
theorem aH7 {d:List aG} {f v:List Rat} {l:List aA} (h:ScB d f v l) {K:Nat} (hK:5000≤K):∀(t k fu:Nat),k+t=off v l l.length→t<fu→aX K ⟨d,f,v,l⟩ ((w8 v l l.length).map pu) (mp p0 l.length) 1 fu (zO (off v l l.length)) (yQ (gk (Mf d v l) k) (off v l l.length)) (k:Int)=some (zO (off v l l.length),yQ (gk (Mf d v l) (off v l l.length)) (off v l l.length))
 |0,k,fu,hi,hk=>by
  obtain⟨k',rfl,_⟩:=aZ hk
  have e:k=off v l l.length:=by omega
  rw [e]
  simp only [aX,sI,dF (show¬(off v l l.length:Int)<(off v l l.length:Int) by omega),bN]
 |t+1,k,fu,hi,hk=>by
  obtain⟨k',rfl,_⟩:=aZ hk
  have hkl:k<off v l l.length:=by omega
  have h8:=h.m8
  have hn:=h.n8
  have h4:=qR (v:=v) (l:=l) l.length
  obtain⟨r,q,h1,h2,h3⟩:=sP l.length k hkl
  have hq3:=vq3 h2
  have hu:=rdU (m:=l.length) h2 h1
  rw [←h3] at hu
  have hr:=h.sb.sl _ (pN h1)
  have ih:=aH7 h hK t (k+1) k' (by omega) (by omega)
  have hcl:=aJu (x:=mp p0 l.length) (by rw [cB];omega)
  have hz:vC ((d.length:Nat):Int) (0:Rat)=some (mp z0 d.length):=aAx (by omega)
  have c3:aP ((k:Int)+3)=some ((k+3:Nat):Int):=by rw [kD (by omega)];rfl
  have hcase:q=0∨q=1∨q=2∨q=3:=by omega
  rcases hcase with rfl|rfl|rfl|rfl
  ·have hk0:k=off v l r:=h3
   have hpk:=aKp (x:=⟨1,if(lH l r).t.length=0 then 0 else(((-(rt (lH l r).t v).num.sign:Int):Rat)/((1:Int):Rat))*((lH l r).mu*1)⟩) (r:=r) h2 (by rw [Nat.add_zero];exact aP8)
   rw [Nat.add_zero,←hk0] at hpk
   have key:dO K ⟨d,f,v,l⟩ ((w8 v l l.length).map pu) (zO (off v l l.length)) (yQ (gk (Mf d v l) k) (off v l l.length)) (k:Int) ⟨(r:Int),0⟩ (lH l r) (aX K ⟨d,f,v,l⟩ ((w8 v l l.length).map pu) (mp p0 l.length) 1 k') (mp (pz v l (ek k)) l.length)=some (zO (off v l l.length),yQ (gk (Mf d v l) (off v l l.length)) (off v l l.length)):=by
    cases hst:zK v (lH l r)
    ·obtain⟨a1,a2⟩:=aCv h hkl (b:=z0) (fun i hi=>by rw [hk0];exact aPc hst hi) (fun i=>Bd.zero.mono (by omega)) hK
     rw [aBm] at a2
     by_cases hk3:k+3<off v l l.length
     ·obtain⟨r',q',g1,g2,g3⟩:=sP l.length (k+3) hk3
      have hu':=rdU (m:=l.length) g2 g1
      rw [←g3] at hu'
      have hne:((r':Int)==(r:Int)&&((q':Nat):Int)==3)=false:=by
       rw [Bool.and_eq_false_iff]
       by_cases e:r'=r
       ·right
        refine qF fun e2=>?_
        rw [e] at g2
        rcases g2 with g|g
        ·omega
        ·rw [hst] at g;exact absurd g.1 (by decide)
       ·left;exact qF (by omega)
      simp only [dO,c3,oB,sI,dT (show((k+3:Nat):Int)<(off v l l.length:Int) by omega),bW,hu',hne,bN,hz,a1,a2,mF (i:=k) (by omega)]
      exact ih
     ·simp only [dO,c3,oB,sI,dF (show¬((k+3:Nat):Int)<(off v l l.length:Int) by omega),bN,hz,a1,a2,mF (i:=k) (by omega)]
      exact ih
    ·have v3:vq v l r 3:=.inr ⟨hst,by omega⟩
     have l3:=sU (v:=v) (l:=l) (m:=l.length) h1 v3
     rw [←hk0] at l3
     have hu':=rdU (m:=l.length) v3 h1
     rw [←hk0] at hu'
     obtain⟨a1,a2⟩:=aCv h hkl (b:=jI z0 (k+3) (lH l r).mu) (fun i hi=>by rw [hk0];exact aRa hst hi) (aFy hr.2) hK
     have hy:((r:Int)==(r:Int)&&((3:Nat):Int)==3)=true:=by rw [qT rfl];rfl
     have e1:=aBB (G:=gk (Mf d v l) k) (k:=k) (j:=k+3) (N:=off v l l.length) (b:=z0) (x:=(lH l r).mu)
     rw [aBm] at e1
     simp only [dO,c3,oB,sI,dT (show((k+3:Nat):Int)<(off v l l.length:Int) by omega),bW,hu',hy,rdO l3,aA5 l3,dW (f:=gk (Mf d v l) k (k+3)) hkl,rF (f:=gk (Mf d v l) k (k+3)) hkl,aDd,e1,hz,a1,a2,mF (i:=k) (by omega)]
     exact ih
   simp only [aX,sI,dT (show(k:Int)<(off v l l.length:Int) by omega),bW,hu,oB,hcl,aBo h1,qT (show((0:Nat):Int)=0 from rfl),dW (f:=p0) h1,rF (f:=p0) h1]
   by_cases ht:(lH l r).t.length=0
   ·rw [if_pos ht] at hpk
    simp only [dF (show¬(0:Int)<((lH l r).t.length:Int) by omega),bN]
    rw [show(⟨1,(p0 r).f⟩:aF)=⟨1,0⟩ from rfl,hpk]
    exact key
   ·rw [if_neg ht] at hpk
    simp only [dT (show(0:Int)<((lH l r).t.length:Int) by omega),bW,aC4 h.sb.sv hr aAg (by omega) (show 13≤K by omega),oB,dW (f:=jI p0 r ⟨1,(p0 r).f⟩) h1,rF (f:=jI p0 r ⟨1,(p0 r).f⟩) h1,bD,aMx,hpk]
    exact key
  ·have v3:vq v l r 3:=vqs h2 (by omega) (by omega)
   have l3:=sU (v:=v) (l:=l) (m:=l.length) h1 v3
   have hj:k+2<off v l l.length:=by omega
   have hpk:=aKp (x:=⟨0,1⟩) h2 (aPZ h2)
   rw [←h3] at hpk
   obtain⟨a1,a2⟩:=aCv h hkl (b:=jI z0 (k+2) (-1)) (fun i hi=>by rw [h3];exact aRk h2 hi) (aFy aI2) hK
   have e1:=aBB (G:=gk (Mf d v l) k) (k:=k) (j:=k+2) (N:=off v l l.length) (b:=z0) (x:=-1)
   rw [aBm] at e1
   have c4:aP (((k+3:Nat):Int)-1)=some ((k+2:Nat):Int):=by rw [show((k+3:Nat):Int)-1=((k+2:Nat):Int) by omega,kD (by omega)]
   have ep:(⟨(p0 r).n,1⟩:aF)=⟨0,1⟩:=rfl
   simp only [aX,sI,dT (show(k:Int)<(off v l l.length:Int) by omega),bW,hu,oB,hcl,aBo h1,qF (show((1:Nat):Int)≠0 by omega),qT (show((1:Nat):Int)=1 from rfl),bN,dW (f:=p0) h1,rF (f:=p0) h1,ep,hpk,c3,c4,rdO hj,aIo,aA5 hj,dW (f:=gk (Mf d v l) k (k+2)) hkl,rF (f:=gk (Mf d v l) k (k+2)) hkl,aDd,e1,hz,a1,a2,mF (i:=k) (by omega)]
   exact ih
  ·have v3:vq v l r 3:=vqs h2 (by omega) (by omega)
   have l3:=sU (v:=v) (l:=l) (m:=l.length) h1 v3
   have hj:k+1<off v l l.length:=by omega
   have hpk:=aKp (x:=⟨0,-1⟩) h2 (aQQ h2)
   rw [←h3] at hpk
   obtain⟨a1,a2⟩:=aCv h hkl (b:=jI z0 (k+1) (-1)) (fun i hi=>by rw [h3];exact aRl h2 hi) (aFy aI2) hK
   have e1:=aBB (G:=gk (Mf d v l) k) (k:=k) (j:=k+1) (N:=off v l l.length) (b:=z0) (x:=-1)
   rw [aBm] at e1
   have c4:aP (((k+3:Nat):Int)-2)=some ((k+1:Nat):Int):=by rw [show((k+3:Nat):Int)-2=((k+1:Nat):Int) by omega,kD (by omega)]
   have ep:(⟨(p0 r).n,-1⟩:aF)=⟨0,-1⟩:=rfl
   simp only [aX,sI,dT (show(k:Int)<(off v l l.length:Int) by omega),bW,hu,oB,hcl,aBo h1,qF (show((2:Nat):Int)≠0 by omega),qF (show((2:Nat):Int)≠1 by omega),qT (show((2:Nat):Int)=2 from rfl),bN,dW (f:=p0) h1,rF (f:=p0) h1,aIo,ep,hpk,c3,c4,rdO hj,aA5 hj,dW (f:=gk (Mf d v l) k (k+1)) hkl,rF (f:=gk (Mf d v l) k (k+1)) hkl,aDd,e1,hz,a1,a2,mF (i:=k) (by omega)]
   exact ih
  ·have hj1:k-2<off v l l.length:=by omega
   have hj2:k-1<off v l l.length:=by omega
   have e1:=aBB (G:=gk (Mf d v l) k) (k:=k) (j:=k-2) (N:=off v l l.length) (b:=z0) (x:=1)
   rw [aBm] at e1
   have e2:=aBB (G:=gk (Mf d v l) k) (k:=k) (j:=k-1) (N:=off v l l.length) (b:=jI z0 (k-2) 1) (x:=1)
   have e3:yQ (zR (gk (Mf d v l) k) k (jI (jI z0 (k-2) 1) (k-1) 1)) (off v l l.length)=yQ (gk (Mf d v l) (k+1)) (off v l l.length):=aNe fun i hi=>by
    rw [h3,aQ3 h2,aQK h2 hi];rfl
   have c1:aP (((k+1:Nat):Int)-3)=some ((k-2:Nat):Int):=by rw [show((k+1:Nat):Int)-3=((k-2:Nat):Int) by omega,kD (by omega)]
   have c2:aP ((k:Int)+2)=some ((k+2:Nat):Int):=by rw [kD (by omega)];rfl
   have c4:aP (((k+2:Nat):Int)-3)=some ((k-1:Nat):Int):=by rw [show((k+2:Nat):Int)-3=((k-1:Nat):Int) by omega,kD (by omega)]
   simp only [aX,sI,dT (show(k:Int)<(off v l l.length:Int) by omega),bW,hu,oB,hcl,aBo h1,qF (show((3:Nat):Int)≠0 by omega),qF (show((3:Nat):Int)≠1 by omega),qF (show((3:Nat):Int)≠2 by omega),qT (show((3:Nat):Int)=3 from rfl),bN,mF (i:=k) (by omega),c1,c2,c4,rdO hj1,rdO hj2,aA5 hj1,dW (f:=gk (Mf d v l) k (k-2)) hkl,rF (f:=gk (Mf d v l) k (k-2)) hkl,aDd,e1,aA5 hj2,dW (f:=zR (gk (Mf d v l) k) k (jI z0 (k-2) 1) (k-1)) hkl,rF (f:=zR (gk (Mf d v l) k) k (jI z0 (k-2) 1) (k-1)) hkl,e2,e3]
   exact ih
theorem aHf {d:List aG} {f v:List Rat} {l:List aA} (h:ScB d f v l) {K:Nat} (hK:5000≤K):l5 K ⟨d,f,v,l⟩=some (mx (Mf d v l) (off v l l.length) (off v l l.length),mp (qf d (qK f) v l) (off v l l.length)):=by
 have h8:=h.m8
 have hn:=h.n8
 have h4:=qR (v:=v) (l:=l) l.length
 have hrb:RsB l:=fun r hr=>(h.sb.sl r hr).1
 have e1:=aKt (v:=v) (l:=l) (m:=l.length) (by omega) K (off v l l.length) 0 K (by omega) (by omega)
 have e2:mp (fun j=>if j<0 then j+1 else 0) (off v l l.length)=mp (fun _=>(0:Nat)) (off v l l.length):=bV fun j _=>if_neg (by omega)
 rw [e2] at e1
 have e3:([]::mx (fun _=>z0) 0 (off v l l.length):List (List Rat))=[[]]:=rfl
 rw [e3] at e1
 simp only [Int.natCast_zero] at e1
 have hc:(1+9)*24*l.length≤400000000:=by omega
 have hp0:PB' 1 l.length p0:=fun r _=>⟨Bd.zero,Bd.zero⟩
 have e4:=aFE (f0:=f) (v0:=v) (p:=p0) h.sb.sd (show d.length≤1000 by omega) h.fbd hrb h.ir (by omega) hp0 (by omega) hc (show 2000≤K by omega)
 rw [←h.fmp] at e4
 have hb:=aDc (p:=p0) h.sb.sd h.fbd hrb h.ir hp0 (by omega) (by omega) (by omega) hc
 have e5:=aLb (d:=d) (f:=f) (v:=v) h.sb.sl hb (by unfold aHB;omega) (by omega) (show 13≤K by omega) (off v l l.length) 0 K (by omega) (by omega)
 have e6:mp (fun j=>if j<0 then rv v l (mp (acc d (qK f) l p0) d.length) j else 0) (off v l l.length)=mp (fun _=>(0:Rat)) (off v l l.length):=bV fun j _=>if_neg (by omega)
 rw [e6] at e5
 simp only [Int.natCast_zero] at e5
 have e7:=aH7 h hK (off v l l.length) 0 K (by omega) (by omega)
 have e8:yQ (gk (Mf d v l) 0) (off v l l.length)=yQ (fun _=>z0) (off v l l.length):=tW fun i c _ _=>if_neg (by omega)
 rw [e8] at e7
 simp only [Int.natCast_zero] at e7
 have e9:yQ (gk (Mf d v l) (off v l l.length)) (off v l l.length)=yQ (Mf d v l) (off v l l.length):=tW fun i c _ hc=>if_pos hc
 rw [e9] at e7
 simp only [l5,aCk h.sb.sv hrb (show l.length≤1000 by omega) (show 2000≤K by omega),oB,sI,aAx (z:=(0:Nat)) (n:=off v l l.length) (by omega),aAx (z:=(0:Rat)) (n:=off v l l.length) (by omega),e1,lR,aAx (z:=(⟨0,0⟩:aF)) (n:=l.length) (by omega),show mp (fun _=>(⟨0,0⟩:aF)) l.length=mp p0 l.length from rfl,e4,kU,e5,iO,aHa,e7,k6,aPb]
 rfl
end Go.Proofs.YtcjdedkdoagifaaGreat
set_option linter.unusedVariables false
namespace Go.Proofs.YtcjdedkdoagifaaGreat
/-- A number that is whole when it is multiplied so often. -/
def dn (D e M:Nat) (x:Rat):Prop:=isZ M (x*((D^e:Nat):Rat))
theorem dn.mono {D e M N:Nat} {x:Rat} (h:dn D e M x) (hn:M≤N):dn D e N x:=isZ.mono h hn
theorem dn.zero {D e M:Nat}:dn D e M 0:=⟨0,by rw [Rat.zero_mul];rfl,Nat.zero_le _⟩
theorem dn.add {D e M N:Nat} {x y:Rat} (h:dn D e M x) (k:dn D e N y):dn D e (M+N) (x+y):=by
 unfold dn;rw [Rat.add_mul];exact isZ.add h k
theorem dn.neg {D e M:Nat} {x:Rat} (h:dn D e M x):dn D e M (-x):=by
 obtain⟨q,h1,h2⟩:=h
 exact⟨-q,by rw [Rat.neg_mul,h1,Rat.intCast_neg],by omega⟩
theorem dn.mul {D e e' M N:Nat} {x y:Rat} (h:dn D e M x) (k:dn D e' N y):dn D (e+e') (M*N) (x*y):=by
 have:=isZ.mul h k
 unfold dn
 rw [Nat.pow_add,Rat.natCast_mul]
 have e2:x*y*(((D^e:Nat):Rat)*((D^e':Nat):Rat))=x*((D^e:Nat):Rat)*(y*((D^e':Nat):Rat)):=by
  rw [Rat.mul_assoc,←Rat.mul_assoc y,Rat.mul_comm y,Rat.mul_assoc ((D^e:Nat):Rat),←Rat.mul_assoc]
 rw [e2];exact this
theorem dn.up {D e M:Nat} {x:Rat} (h:dn D e M x):dn D (e+1) (M*D) x:=by
 have h1:dn D 1 D 1:=⟨(D:Int),by rw [Rat.one_mul,Nat.pow_one];rfl,by simp⟩
 have:=h.mul h1
 rwa [Rat.mul_one] at this
structure DD (D:Nat) (d:List aG) (f:Nat→Rat) (l:List aA):Prop where
 pos:1≤D
 inv:∀x∈d,dn D 1 (256*D) x.inv
 fl:∀j,j<d.length→dn D 1 (256*D) (f j)
 tj:∀r∈l,∀t∈r.j,dn D 1 (256*D) t.k
 tt:∀r∈l,∀t∈r.t,dn D 1 (256*D) t.k
 mu:∀r∈l,dn D 1 (256*D) r.mu
theorem aLV {D M:Nat} {j:Nat}:∀(l:List aE),(∀t∈l,dn D 1 M t.k)→dn D 1 (l.length*M) (cf l j)
 |[],_=>dn.zero
 |t::l,h=>by
  have h1:=aLV (j:=j) l fun t ht=>h t (List.mem_cons_of_mem _ ht)
  show dn D 1 ((l.length+1)*M) ((if t.dof=(j:Int) then t.k else 0)+cf l j)
  rw [Nat.succ_mul,Nat.add_comm]
  refine dn.add ?_ h1
  split
  ·exact h t List.mem_cons_self
  ·exact dn.zero
theorem aJj {D M e P:Nat} {l:List aA} {p:Nat→aF} {j:Nat} (hj:∀r∈l,∀t∈r.j,dn D 1 M t.k) (ht:∀r∈l,∀t∈r.t,dn D 1 M t.k) (hl:RsB l) (hp:∀r,r<l.length→dn D e P (p r).n∧dn D e P (p r).f):∀m,m≤l.length→dn D (1+e) (m*(24*M*P)) (sF l p m j)
 |0,_=>dn.zero
 |m+1,hm=>by
  have h1:=aJj (j:=j) hj ht hl hp m (by omega)
  have hr:=pN (l:=l) (i:=m) (by omega)
  obtain⟨p1,p2⟩:=hp m (by omega)
  have c1:=(aLV (j:=j) (lH l m).j (hj _ hr)).mono (Nat.mul_le_mul_right M (hl _ hr).1.1)
  have c2:=(aLV (j:=j) (lH l m).t (ht _ hr)).mono (Nat.mul_le_mul_right M (hl _ hr).2.1)
  have h2:=(c1.mul p1).add (c2.mul p2)
  show dn D (1+e) _ (sF l p m j+rcq l p m j)
  rw [Nat.succ_mul]
  exact h1.add (h2.mono (by rw [←Nat.add_mul,←Nat.add_mul];exact Nat.le_refl _))
theorem aLC {D M e A n:Nat} {a:Nat→Rat} (ha:∀j,j<n→dn D e A (a j)):∀(l:List aE) (x:Rat) (X:Nat),(∀t∈l,dn D 1 M t.k)→dn D (1+e) X x→dn D (1+e) (X+l.length*(M*A)) (rtf (mp a n) l x)
 |[],x,X,_,hx=>hx.mono (by simp)
 |t::l,x,X,h,hx=>by
  have h1:dn D (1+e) (M*A) (trm (mp a n) t):=by
   unfold trm
   rw [cB]
   by_cases hc:0≤t.dof∧t.dof<(n:Int)
   ·rw [decide_eq_true hc]
    show dn D (1+e) _ (t.k*qK _ _)
    rw [aAT (by omega)]
    exact(h t List.mem_cons_self).mul (ha _ (by omega))
   ·rw [decide_eq_false hc];exact dn.zero
  have:=aLC ha l (x+trm (mp a n) t) (X+M*A) (fun t ht=>h t (List.mem_cons_of_mem _ ht)) (hx.add h1)
  refine this.mono ?_
  rw [List.length_cons,Nat.succ_mul];omega
theorem aOp {D M e A n:Nat} {a:Nat→Rat} (ha:∀j,j<n→dn D e A (a j)) {l:List aE} (hl:l.length≤12) (h:∀t∈l,dn D 1 M t.k):dn D (1+e) (12*(M*A)) (rt l (mp a n)):=
 (aLC ha l 0 0 h dn.zero).mono (by rw [Nat.zero_add];exact Nat.mul_le_mul_right _ hl)
theorem aNE {D e A n k:Nat} {d:List aG} {f:Nat→Rat} {v:List Rat} {l:List aA} {a:Nat→Rat} (h:DD D d f l) (hl:RsB l) (ha:∀j,j<n→dn D e A (a j)) (hk:k<off v l l.length):dn D (1+e) (12*(256*D*A)) (rv v l (mp a n) k):=by
 obtain⟨r,q,h1,h2,h3⟩:=sP l.length k hk
 have hr:=pN h1
 have bj:=aOp ha (hl _ hr).1.1 (h.tj _ hr)
 have bt:=aOp ha (hl _ hr).2.1 (h.tt _ hr)
 rw [rv0 h2 h1 h3]
 split
 ·exact bj
 ·split
  ·exact bt
  ·split
   ·exact bt.neg
   ·exact dn.zero
theorem aER {D k j:Nat}:dn D 0 1 (ek k j):=by
 unfold ek jI z0
 split
 ·exact⟨1,by rw [Rat.one_mul];rfl,by decide⟩
 ·exact dn.zero
theorem aQm {D:Nat} {d:List aG} {f:Nat→Rat} {v:List Rat} {l:List aA} (h:DD D d f l) {k r:Nat} (hr:r<l.length):dn D 1 (512*D) (pz v l (ek k) r).n∧dn D 1 (512*D) (pz v l (ek k) r).f:=by
 have h0:dn D 1 (1*D) (ek k (off v l r)):=aER.up
 have hD:=h.pos
 unfold pz
 split
 ·exact⟨h0.mono (by omega),dn.zero⟩
 ·split
  ·refine⟨h0.mono (by omega),?_⟩
   have hb:=aI1 (rt (lH l r).t v)
   have c:dn D 0 1 (((-(rt (lH l r).t v).num.sign:Int):Rat)/((1:Int):Rat)):=⟨-(rt (lH l r).t v).num.sign,by
    rw [Rat.div_def,show(((1:Int):Rat))⁻¹=1 by decide+kernel,Nat.pow_zero,Rat.mul_one];exact Rat.mul_one _,by omega⟩
   have:=c.mul ((h.mu _ (pN hr)).mul (aER (D:=D) (k:=k) (j:=off v l r)))
   exact this.mono (by omega)
  ·refine⟨h0.mono (by omega),?_⟩
   have:=(aER (D:=D) (k:=k) (j:=off v l r+1)).add (aER (D:=D) (k:=k) (j:=off v l r+2)).neg
   rw [←Rat.sub_eq_add_neg] at this
   exact this.up.mono (by omega)
theorem aMf {D e P m:Nat} {d:List aG} {f g:Nat→Rat} {l:List aA} {p:Nat→aF} (h:DD D d f l) (hl:RsB l) (hm:l.length≤m) {X:Nat} (hg:∀j,j<d.length→dn D (1+e) X (g j)) (hp:∀r,r<l.length→dn D e P (p r).n∧dn D e P (p r).f):∀j,j<d.length→dn D (1+e+1) ((X+m*(24*(256*D)*P))*(256*D)) (acc d g l p j):=fun j hj=>
 ((hg j hj).add ((aJj h.tj h.tt hl hp l.length (Nat.le_refl _)).mono (Nat.mul_le_mul_right _ hm))).mul (h.inv _ (aBG hj))
theorem aRe {D k i:Nat} {d:List aG} {f:Nat→Rat} {v:List Rat} {l:List aA} (h:DD D d f l) (hi:i<off v l l.length):dn D 1 (300*D) (zv v l (ek k) i):=by
 obtain⟨r,q,h1,h2,h3⟩:=sP l.length i hi
 have hD:=h.pos
 have u:∀j,dn D 1 (1*D) (ek k j):=fun j=>aER.up
 rw [zv0 h2 h1 h3]
 split
 ·exact dn.zero
 ·split
  ·exact(u _).mono (by omega)
  ·split
   ·exact(u _).mono (by omega)
   ·have:=((h.mu _ (pN h1)).mul (aER (D:=D) (k:=k) (j:=i-3))).add ((u (i-2)).add (u (i-1))).neg
    rw [←Rat.sub_eq_add_neg] at this
    exact this.mono (by omega)
theorem four {D:Nat}:12*(256*D*((0+5*(24*(256*D)*(512*D)))*(256*D)))+300*D*D*D*D≤2^50*(D*D*D*D):=by
 have e:12*(256*D*((0+5*(24*(256*D)*(512*D)))*(256*D)))=(12*256*5*24*256*512*256)*(D*D*D*D):=by
  rw [Nat.zero_add]
  simp only [Nat.mul_assoc,Nat.mul_left_comm,Nat.mul_comm]
 have e2:300*D*D*D*D=300*(D*D*D*D):=by simp only [Nat.mul_assoc]
 rw [e,e2]
 generalize D*D*D*D=x
 omega
theorem aP6 {D:Nat} {d:List aG} {f:Nat→Rat} {v:List Rat} {l:List aA} (h:DD D d f l) (hl:RsB l) (hm:l.length≤5) {i k:Nat} (hi:i<off v l l.length):dn D 4 (2^50*(D*D*D*D)) (Mf d v l i k):=by
 have a:=aMf (e:=1) (g:=z0) (X:=0) h hl hm (fun j _=>dn.zero) (fun r hr=>aQm (v:=v) (k:=k) h hr)
 have r:=aNE (v:=v) h hl a hi
 have z:=(aRe (k:=k) h hi).up.up.up
 exact(r.add z).mono four
end Go.Proofs.YtcjdedkdoagifaaGreat
set_option linter.unusedVariables false
namespace Go.Proofs.YtcjdedkdoagifaaGreat
theorem aMV (x:Rat):x*((x.den:Nat):Rat)=(x.num:Rat):=by
 have h:((x.den:Nat):Rat)≠0:=fun e=>x.den_nz (by exact_mod_cast e)
 have e:x=(x.num:Rat)/((x.den:Nat):Rat):=by
  conv=>lhs;rw [←Rat.num_divInt_den x,Rat.divInt_eq_div]
  rfl
 conv=>lhs;lhs;rw [e]
 exact Rat.div_mul_cancel h
theorem aIn:∀xs:List Rat,(∀x∈xs,Bd 8 x)→∃D:Nat,1≤D∧D≤256^xs.length∧∀x∈xs,dn D 1 (256*D) x
 |[],_=>⟨1,Nat.le_refl _,Nat.le_refl _,fun x h=>absurd h List.not_mem_nil⟩
 |x::xs,h=>by
  obtain⟨D,h1,h2,h3⟩:=aIn xs fun y hy=>h y (List.mem_cons_of_mem _ hy)
  obtain⟨b1,b2⟩:=h x List.mem_cons_self
  have hp:=x.den_pos
  have hle:D*x.den≤256^(xs.length+1):=by
   rw [Nat.pow_succ];exact Nat.mul_le_mul h2 (by omega)
  refine⟨D*x.den,Nat.mul_pos h1 hp,hle,fun y hy=>?_⟩
  rcases List.mem_cons.1 hy with rfl|hy
  ·refine⟨y.num*D,?_,?_⟩
   ·rw [Nat.pow_one,Rat.natCast_mul,Rat.mul_comm (D:Rat),←Rat.mul_assoc,aMV,Rat.intCast_mul];rfl
   ·rw [Int.natAbs_mul,Int.natAbs_natCast]
    refine Nat.le_trans (Nat.mul_le_mul_right D (show y.num.natAbs≤256 by omega)) ?_
    exact Nat.mul_le_mul_left 256 (Nat.le_mul_of_pos_right D hp)
  ·obtain⟨q,q1,q2⟩:=h3 y hy
   refine⟨q*x.den,?_,?_⟩
   ·rw [Nat.pow_one] at q1 ⊢
    rw [Rat.natCast_mul,←Rat.mul_assoc,q1,Rat.intCast_mul];rfl
   ·rw [Int.natAbs_mul,Int.natAbs_natCast,←Nat.mul_assoc]
    exact Nat.mul_le_mul_right _ q2
def aJI (r:aA):List Rat:=r.mu::(r.j.map (·.k)++r.t.map (·.k))
def aLv (d:List aG) (f:Nat→Rat) (l:List aA):List Rat:=d.map (·.inv)++mp f d.length++l.flatMap aJI
theorem aKq {r:aA} (h:RB r):(aJI r).length≤25:=by
 have h1:=h.1.1
 have h2:=h.2.1
 unfold aJI
 simp only [List.length_cons,List.length_append,List.length_map]
 omega
theorem aEG:∀l:List aA,RsB l→(l.flatMap aJI).length≤25*l.length
 |[],_=>Nat.le_refl _
 |r::l,h=>by
  have h1:=aEG l fun x hx=>h x (List.mem_cons_of_mem _ hx)
  have h2:=aKq (h r List.mem_cons_self)
  rw [List.flatMap_cons,List.length_append,List.length_cons]
  omega
theorem aQx {d:List aG} {f:Nat→Rat} {l:List aA} (hd:∀x∈d,Bd 8 x.inv) (hn:d.length≤12) (hf:∀j,j<d.length→Bd 8 (f j)) (hl:RsC l) (hm:l.length≤5):∃D,DD D d f l∧D≤256^149:=by
 have hrb:RsB l:=fun r hr=>(hl r hr).1
 obtain⟨D,h1,h2,h3⟩:=aIn (aLv d f l) fun x hx=>by
  unfold aLv at hx
  rcases List.mem_append.1 hx with hx|hx
  ·rcases List.mem_append.1 hx with hx|hx
   ·obtain⟨y,hy,rfl⟩:=List.mem_map.1 hx
    exact hd y hy
   ·exact z6 hf x hx
  ·obtain⟨r,hr,hx⟩:=List.mem_flatMap.1 hx
   unfold aJI at hx
   rcases List.mem_cons.1 hx with rfl|hx
   ·exact(hl r hr).2
   ·rcases List.mem_append.1 hx with hx|hx
    ·obtain⟨t,ht,rfl⟩:=List.mem_map.1 hx
     exact(hl r hr).1.1.2 t ht
    ·obtain⟨t,ht,rfl⟩:=List.mem_map.1 hx
     exact(hl r hr).1.2.2 t ht
 have hlen:(aLv d f l).length≤149:=by
  have:=aEG l hrb
  unfold aLv
  simp only [List.length_append,List.length_map,cB]
  omega
 have inR:∀r∈l,∀x∈aJI r,x∈aLv d f l:=fun r hr x hx=>List.mem_append.2 (.inr (List.mem_flatMap.2 ⟨r,hr,hx⟩))
 refine⟨D,⟨h1,fun x hx=>h3 _ (List.mem_append.2 (.inl (List.mem_append.2 (.inl (List.mem_map.2 ⟨x,hx,rfl⟩))))),fun j hj=>h3 _ (List.mem_append.2 (.inl (List.mem_append.2 (.inr (List.mem_map.2 ⟨j,List.mem_range.2 hj,rfl⟩))))),fun r hr t ht=>h3 _ (inR r hr _ ?_),fun r hr t ht=>h3 _ (inR r hr _ ?_),fun r hr=>h3 _ (inR r hr _ List.mem_cons_self)⟩,Nat.le_trans h2 (Nat.pow_le_pow_right (by omega) hlen)⟩
 ·exact List.mem_cons_of_mem _ (List.mem_append.2 (.inl (List.mem_map.2 ⟨t,ht,rfl⟩)))
 ·exact List.mem_cons_of_mem _ (List.mem_append.2 (.inr (List.mem_map.2 ⟨t,ht,rfl⟩)))
def wG (M:Nat→Nat→Rat) (q:Nat→Rat) (n i c:Nat):Rat:=
 if c<n then(if i=c then 1 else 0) else if c<2*n then -(M i (c-n)) else if c=2*n then -1 else q i
theorem aKC {M:Nat→Nat→Rat} {q:Nat→Rat} {n:Nat}:TI n (2*n+2) (wG M q n) (wG M q n) (fun j=>j):=TI.start (by omega) fun i j hi hj=>if_pos hj
theorem aPv {D e:Nat} (h:1≤D):dn D e (D^e) 1:=⟨((D^e:Nat):Int),by rw [Rat.one_mul];rfl,by simp⟩
theorem aQi {D:Nat} {d:List aG} {f:Nat→Rat} {v:List Rat} {l:List aA} (h:DD D d f l) (hl:RsB l) (hm:l.length≤5) {i:Nat} (hi:i<off v l l.length):dn D 4 (2^50*(D*D*D*D)) (qf d f v l i):=by
 have a:=aMf (e:=0) (g:=f) (P:=0) (p:=p0) h hl hm h.fl (fun r hr=>⟨dn.zero,dn.zero⟩)
 have r:=(aNE (v:=v) h hl a hi).up
 refine r.mono ?_
 have e:12*(256*D*((256*D+5*(24*(256*D)*0))*(256*D)))*D=(12*256*256*256)*(D*D*D*D):=by
  simp only [Nat.mul_zero,Nat.add_zero]
  simp only [Nat.mul_assoc,Nat.mul_left_comm,Nat.mul_comm]
 rw [e]
 generalize D*D*D*D=x
 omega
theorem aPE {D:Nat} {d:List aG} {f:Nat→Rat} {v:List Rat} {l:List aA} (h:DD D d f l) (hl:RsB l) (hm:l.length≤5) {i c:Nat} (hi:i<off v l l.length):dn D 4 (2^50*(D*D*D*D)) (wG (Mf d v l) (qf d f v l) (off v l l.length) i c):=by
 have hD:=h.pos
 have o:dn D 4 (2^50*(D*D*D*D)) (1:Rat):=(aPv hD).mono (by
  have:D^4=D*D*D*D:=by simp [Nat.pow_succ]
  rw [this]
  generalize D*D*D*D=x
  omega)
 unfold wG
 split
 ·split
  ·exact o
  ·exact dn.zero
 ·split
  ·exact(aP6 h hl hm hi).neg
  ·split
   ·exact o.neg
   ·exact aQi h hl hm hi
end Go.Proofs.YtcjdedkdoagifaaGreat
set_option linter.unusedVariables false
namespace Go.Proofs.YtcjdedkdoagifaaGreat
/-- The rows of a tableau as they lie. -/
structure yX (n w:Nat) (rs:List (List Rat)) (od:Nat→Nat) (T:Nat→Nat→Rat):Prop where
 lt:∀i,i<n→od i<rs.length
 inj:∀i j,i<n→j<n→od i=od j→i=j
 row:∀i,i<n→rs.getD (od i) []=mp (T i) w
def sV (n j:Nat):Nat:=if j=0 then 2*n+1 else j-1
def lx (T:Nat→Nat→Rat) (n i:Nat) (c:Rat) (k:Nat) (d:Rat):Nat→Nat→Bool
 |0,_=>false
 |t+1,j=>bif decide (T i (sV n j)/c=T k (sV n j)/d) then lx T n i c k d t (j+1) else decide (T i (sV n j)/c<T k (sV n j)/d)
def les (T:Nat→Nat→Rat) (n i:Nat) (c:Rat) (k:Nat) (d:Rat):Bool:=lx T n i c k d (n+1) 0
theorem aIT {m k:Nat} {a b:Rat} (ha:Bd m a) (hb:Bd k b) (hm:m≤1073741824) (hk:k≤1073741824):aFQ a b=some (if a<b then -1 else if b<a then 1 else 0):=by
 unfold aFQ;rw [ha.qs hm,hb.qs hk];rfl
theorem aCj {a b:Rat}:((if a<b then -1 else if b<a then 1 else 0:Int)=0↔a=b)∧decide ((if a<b then -1 else if b<a then 1 else 0:Int)<0)=decide (a<b):=by
 by_cases h:a<b
 ·rw [if_pos h]
  refine⟨⟨fun h2=>absurd h2 (by decide),fun h2=>?_⟩,by rw [decide_eq_true h];rfl⟩
  rw [h2] at h;exact absurd h (Rat.lt_irrefl)
 ·rw [if_neg h]
  by_cases h2:b<a
  ·rw [if_pos h2]
   refine⟨⟨fun h3=>absurd h3 (by decide),fun h3=>?_⟩,by rw [decide_eq_false h];rfl⟩
   rw [h3] at h2;exact absurd h2 (Rat.lt_irrefl)
  ·rw [if_neg h2]
   exact⟨⟨fun _=>Rat.le_antisymm (Rat.not_lt.1 h2) (Rat.not_lt.1 h),fun _=>rfl⟩,by rw [decide_eq_false h];rfl⟩
theorem aI8 {n j:Nat} (h:j≤n):sV n j<2*n+2:=by unfold sV;split<;>omega
theorem aEU {n:Nat} {rs:List (List Rat)} {od:Nat→Nat} {T:Nat→Nat→Rat} (hr:yX n (2*n+2) rs od T) {B C:Nat} (hT:Bdx n (2*n+2) B T) {i k:Nat} (hi:i<n) (hk:k<n) {c d:Rat} (hc:Bd C c) (hd:Bd C d) (hBC:B+C≤500000000) (hn:n≤1000) (K:Nat):
  ∀(t j fu:Nat),j+t=n+1→t<fu→aR K (i:Int) c (k:Int) d (n:Int) (mp od n) rs fu ((j:Int)-1)=some (.ret (lx T n i c k d t j))∨(lx T n i c k d t j=false∧aR K (i:Int) c (k:Int) d (n:Int) (mp od n) rs fu ((j:Int)-1)=some (.go ()))
 |0,j,fu,hj,hf=>by
  obtain⟨fu',rfl,_⟩:=aZ hf
  refine .inr ⟨rfl,?_⟩
  simp only [aR,dF (show¬(j:Int)-1<(n:Int) by omega),bN]
 |t+1,j,fu,hj,hf=>by
  obtain⟨fu',rfl,_⟩:=aZ hf
  have hl:=aI8 (n:=n) (j:=j) (by omega)
  have b1:=(hT i _ hi hl).div hc
  have b2:=(hT k _ hk hl).div hd
  have ih:=aEU hr hT hi hk hc hd hBC hn K t (j+1) fu' (by omega) (by omega)
  have key:dU K (i:Int) c (k:Int) d (mp od n) rs ((j:Int)-1) (aR K (i:Int) c (k:Int) d (n:Int) (mp od n) rs fu') ((sV n j:Nat):Int)=bif decide (T i (sV n j)/c=T k (sV n j)/d) then aR K (i:Int) c (k:Int) d (n:Int) (mp od n) rs fu' (((j+1:Nat):Int)-1) else some (.ret (decide (T i (sV n j)/c<T k (sV n j)/d))):=by
   simp only [dU,dW (f:=od) hi,dW (f:=od) hk,oB,hr.row i hi,hr.row k hk,dW (f:=T i) hl,dW (f:=T k) hl,aAv (hT i _ hi hl) hc (by omega) (by omega),aAv (hT k _ hk hl) hd (by omega) (by omega),aIT b1 b2 (by omega) (by omega)]
   by_cases h:T i (sV n j)/c=T k (sV n j)/d
   ·rw [nF (aCj.1.2 h),bN,decide_eq_true h,bW,kD (by omega),oB]
    congr 1
    omega
   ·rw [nT (fun h2=>h (aCj.1.1 h2)),bW,decide_eq_false h,bN,aCj.2]
  have main:aR K (i:Int) c (k:Int) d (n:Int) (mp od n) rs (fu'+1) ((j:Int)-1)=bif decide (T i (sV n j)/c=T k (sV n j)/d) then aR K (i:Int) c (k:Int) d (n:Int) (mp od n) rs fu' (((j+1:Nat):Int)-1) else some (.ret (decide (T i (sV n j)/c<T k (sV n j)/d))):=by
   rw [←key]
   by_cases h0:j=0
   ·subst h0
    have c1:aP (2*(n:Int))=some (2*(n:Int)):=kD (by omega)
    have c2:aP (2*(n:Int)+1)=some ((sV n 0:Nat):Int):=by
     rw [kD (by omega)];congr 1
    simp only [aR,dT (show((0:Nat):Int)-1<(n:Int) by omega),bW,dT (show((0:Nat):Int)-1<0 by omega),c1,c2,oB]
   ·have e:((sV n j:Nat):Int)=(j:Int)-1:=by unfold sV;rw [if_neg h0];omega
    rw [e]
    simp only [aR,dT (show(j:Int)-1<(n:Int) by omega),bW,dF (show¬(j:Int)-1<0 by omega),bN]
  rw [main]
  have el:lx T n i c k d (t+1) j=bif decide (T i (sV n j)/c=T k (sV n j)/d) then lx T n i c k d t (j+1) else decide (T i (sV n j)/c<T k (sV n j)/d):=rfl
  rw [el]
  by_cases h:T i (sV n j)/c=T k (sV n j)/d
  ·rw [decide_eq_true h,bW,bW];exact ih
  ·rw [decide_eq_false h,bN,bN];exact .inl rfl
theorem aGw {n:Nat} {rs:List (List Rat)} {od:Nat→Nat} {T:Nat→Nat→Rat} {a6:List Int} (hr:yX n (2*n+2) rs od T) {B C:Nat} (hT:Bdx n (2*n+2) B T) {i k:Nat} (hi:i<n) (hk:k<n) {c d:Rat} (hc:Bd C c) (hd:Bd C d) (hBC:B+C≤500000000) (hn:n≤1000) {K:Nat} (hK:2000≤K):dY K (i:Int) c (k:Int) d (n:Int) (mp od n) a6 rs=some (les T n i c k d):=by
 have:=aEU hr hT hi hk hc hd hBC hn K (n+1) 0 K (by omega) (by omega)
 rw [show((0:Nat):Int)-1=-1 from rfl] at this
 rcases this with h|⟨h1,h2⟩
 ·simp only [dY,h,oB];rfl
 ·simp only [dY,h2,oB,gU]
  exact congrArg some h1.symm
def kf (T:Nat→Nat→Rat) (n i:Nat) (c:Rat) (j:Nat):Rat:=T i (sV n j)/c
theorem aIf {n:Nat} {T:Nat→Nat→Rat} {B C i:Nat} {c:Rat} (hT:Bdx n (2*n+2) B T) (hi:i<n) (hc:Bd C c) (hB:B≤1073741824) (hC:C≤1073741824) (hn:n≤1000) (K:Nat):∀(t j fu:Nat),j+t=n→t<fu→l4 K (mp (T i) (2*n+2)) (n:Int) c fu (mp (kf T n i c) (j+1)) (j:Int)=some (mp (kf T n i c) (n+1))
 |0,j,fu,hj,hf=>by
  obtain⟨fu',rfl,_⟩:=aZ hf
  have e:j=n:=by omega
  subst e
  simp only [l4,dF (show¬(j:Int)<(j:Int) by omega),bN]
 |t+1,j,fu,hj,hf=>by
  obtain⟨fu',rfl,_⟩:=aZ hf
  have e:kf T n i c (j+1)=T i j/c:=by unfold kf sV;rw [if_neg (by omega),Nat.add_sub_cancel]
  have ap:=apM (g:=kf T n i c) (i:=j+1) (by omega)
  rw [e] at ap
  simp only [l4,dT (show(j:Int)<(n:Int) by omega),bW,dW (f:=T i) (n:=2*n+2) (i:=j) (by omega),oB,aAv (hT i j hi (by omega)) hc hB hC,ap,mF (i:=j) (by omega)]
  exact aIf hT hi hc hB hC hn K t (j+1) fu' (by omega) (by omega)
theorem aFU {n:Nat} {T:Nat→Nat→Rat} {B C i:Nat} {c:Rat} (hT:Bdx n (2*n+2) B T) (hi:i<n) (hc:Bd C c) (hB:B≤1073741824) (hC:C≤1073741824) (hn:n≤1000) {K:Nat} (hK:2000≤K):mV K (mp (T i) (2*n+2)) (n:Int) c=some (mp (kf T n i c) (n+1)):=by
 have:=aIf hT hi hc hB hC hn K n 0 K (by omega) (by omega)
 simp only [Int.natCast_zero] at this
 have c1:aP (2*(n:Int))=some (2*(n:Int)):=kD (by omega)
 have c2:aP (2*(n:Int)+1)=some ((2*n+1:Nat):Int):=by rw [kD (by omega)];congr 1
 have e:[T i (2*n+1)/c]=mp (kf T n i c) (0+1):=rfl
 simp only [mV,c1,c2,oB,dW (f:=T i) (n:=2*n+2) (i:=2*n+1) (by omega),aAv (hT i (2*n+1) hi (by omega)) hc hB hC,e,this,uV]
theorem aEI {n:Nat} {T:Nat→Nat→Rat} {B C i k:Nat} {c d:Rat} (hT:Bdx n (2*n+2) B T) (hi:i<n) (hk:k<n) (hc:Bd C c) (hd:Bd C d) (hBC:B+C≤500000000) (hn:n≤1000) (K:Nat):∀(t j fu:Nat),j+t=n+1→t<fu→hU K (mp (kf T n i c) (n+1)) (mp (kf T n k d) (n+1)) fu (j:Int)=some (.ret (lx T n i c k d t j))∨(lx T n i c k d t j=false∧hU K (mp (kf T n i c) (n+1)) (mp (kf T n k d) (n+1)) fu (j:Int)=some (.go ()))
 |0,j,fu,hj,hf=>by
  obtain⟨fu',rfl,_⟩:=aZ hf
  refine .inr ⟨rfl,?_⟩
  simp only [hU,cB,dF (show¬(j:Int)<((n+1:Nat):Int) by omega),bN]
 |t+1,j,fu,hj,hf=>by
  obtain⟨fu',rfl,_⟩:=aZ hf
  have hl:=aI8 (n:=n) (j:=j) (by omega)
  have b1:Bd (B+C) (kf T n i c j):=(hT i _ hi hl).div hc
  have b2:Bd (B+C) (kf T n k d j):=(hT k _ hk hl).div hd
  have ih:=aEI hT hi hk hc hd hBC hn K t (j+1) fu' (by omega) (by omega)
  have el:lx T n i c k d (t+1) j=bif decide (kf T n i c j=kf T n k d j) then lx T n i c k d t (j+1) else decide (kf T n i c j<kf T n k d j):=rfl
  rw [el]
  simp only [hU,cB,dT (show(j:Int)<((n+1:Nat):Int) by omega),bW,dW (f:=kf T n i c) (n:=n+1) (i:=j) (by omega),dW (f:=kf T n k d) (n:=n+1) (i:=j) (by omega),oB,aIT b1 b2 (by omega) (by omega)]
  by_cases h:kf T n i c j=kf T n k d j
  ·rw [nF (aCj.1.2 h),bN,decide_eq_true h,bW,mF (i:=j) (by omega),oB];exact ih
  ·rw [nT (fun h2=>h (aCj.1.1 h2)),bW,decide_eq_false h,bN,aCj.2];exact .inl rfl
theorem aEf {n:Nat} {T:Nat→Nat→Rat} {B C i k:Nat} {c d:Rat} (hT:Bdx n (2*n+2) B T) (hi:i<n) (hk:k<n) (hc:Bd C c) (hd:Bd C d) (hBC:B+C≤500000000) (hn:n≤1000) {K:Nat} (hK:2000≤K):mP K (mp (kf T n i c) (n+1)) (mp (kf T n k d) (n+1))=some (les T n i c k d):=by
 have:=aEI hT hi hk hc hd hBC hn K (n+1) 0 K (by omega) (by omega)
 simp only [Int.natCast_zero] at this
 rcases this with h|⟨h1,h2⟩
 ·simp only [mP,h,oB];rfl
 ·simp only [mP,h2,oB,tX]
  exact congrArg some h1.symm
end Go.Proofs.YtcjdedkdoagifaaGreat
set_option linter.unusedVariables false
namespace Go.Proofs.YtcjdedkdoagifaaGreat
def w9 (T:Nat→Nat→Rat) (r c k:Nat):Rat:=T r k/T r c
theorem aGX {n w r c B:Nat} {T:Nat→Nat→Rat} (hT:Bdx n w B T) (hr:r<n) (hc:c<w) (hB:B≤500000000) (hw:w≤100000) (K:Nat):∀(t k fu:Nat),k+t=w→t<fu→kJ K (mx T n w) (r:Int) (c:Int) fu (mp (w9 T r c) k) (k:Int)=some (mp (w9 T r c) w)
 |0,k,fu,hk,hf=>by
  obtain⟨fu',rfl,_⟩:=aZ hf
  have e:k=w:=by omega
  subst e
  simp only [kJ,aA2 (g:=T) (w:=k) hr,oB,cB,dF (show¬(k:Int)<(k:Int) by omega),bN]
 |t+1,k,fu,hk,hf=>by
  obtain⟨fu',rfl,_⟩:=aZ hf
  have hkw:k<w:=by omega
  have ap:=apM (g:=w9 T r c) (i:=k) (by omega)
  simp only [kJ,aA2 (g:=T) (w:=w) hr,oB,cB,dT (show(k:Int)<(w:Int) by omega),bW,dW (f:=T r) hkw,dW (f:=T r) hc,aAv (hT r k hr hkw) (hT r c hr hc) (by omega) (by omega),show T r k/T r c=w9 T r c k from rfl,ap,mF (i:=k) (by omega)]
  exact aGX hT hr hc hB hw K t (k+1) fu' (by omega) (by omega)
theorem aIH {n w r c B k:Nat} {T:Nat→Nat→Rat} (hT:Bdx n w B T) (hr:r<n) (hc:c<w) (hk:k<w):Bd (B+B) (w9 T r c k):=(hT r k hr hk).div (hT r c hr hc)
theorem aGV {n w r c i B:Nat} {T:Nat→Nat→Rat} (hT:Bdx n w B T) (hr:r<n) (hc:c<w) (hi:i<n) (hne:i≠r) (hB:B≤200000000) (hw:w≤100000) (K:Nat):∀(t k fu:Nat),k+t=w→t<fu→kN K (mx T n w) (c:Int) (mp (w9 T r c) w) (i:Int) fu (mp (wD T r c i) k) (k:Int)=some (mp (wD T r c i) w)
 |0,k,fu,hk,hf=>by
  obtain⟨fu',rfl,_⟩:=aZ hf
  have e:k=w:=by omega
  subst e
  simp only [kN,cB,dF (show¬(k:Int)<(k:Int) by omega),bN]
 |t+1,k,fu,hk,hf=>by
  obtain⟨fu',rfl,_⟩:=aZ hf
  have hkw:k<w:=by omega
  have ap:=apM (g:=wD T r c i) (i:=k) (by omega)
  have e:T i k-T i c*w9 T r c k=wD T r c i k:=by unfold wD w9;rw [if_neg hne]
  have b:=aIH hT hr hc hkw
  have b2:=hT i c hi hc
  simp only [kN,cB,dT (show(k:Int)<(w:Int) by omega),bW,aA2 (g:=T) (w:=w) hi,oB,dW (f:=T i) hkw,dW (f:=T i) hc,dW (f:=w9 T r c) hkw,oH b2 b (by omega) (by omega),zB (hT i k hi hkw) (b2.mul b) (by omega) (by omega),e,ap,mF (i:=k) (by omega)]
  exact aGV hT hr hc hi hne hB hw K t (k+1) fu' (by omega) (by omega)
theorem aG5 {n w r c B:Nat} {T:Nat→Nat→Rat} (hT:Bdx n w B T) (hr:r<n) (hc:c<w) (hB:B≤200000000) (hw:w≤100000) (hn:n≤100000) {K:Nat} (hK:w<K):∀(t i fu:Nat),i+t=n→t<fu→fW K (mx T n w) (r:Int) (c:Int) (mp (w9 T r c) w) fu (mx (wD T r c) i w) (i:Int)=some (mx (wD T r c) n w)
 |0,i,fu,hk,hf=>by
  obtain⟨fu',rfl,_⟩:=aZ hf
  have e:i=n:=by omega
  subst e
  simp only [fW,tS,dF (show¬(i:Int)<(i:Int) by omega),bN]
 |t+1,i,fu,hk,hf=>by
  obtain⟨fu',rfl,_⟩:=aZ hf
  have hin:i<n:=by omega
  have ap:qV (mx (wD T r c) i w) [mp (wD T r c i) w]=some (mx (wD T r c) (i+1) w):=apM (g:=fun i=>mp (wD T r c i) w) (by omega)
  have ih:=aG5 hT hr hc hB hw hn hK t (i+1) fu' (by omega) (by omega)
  by_cases e:i=r
  ·have e2:mp (w9 T r c) w=mp (wD T r c i) w:=bV fun k _=>by unfold wD w9;rw [if_pos e]
   simp only [fW,tS,dT (show(i:Int)<(n:Int) by omega),bW,qT (show(i:Int)=(r:Int) by omega)]
   rw [e2] at ih ⊢
   simp only [ap,oB,mF (i:=i) (by omega)]
   exact ih
  ·have h82:=aGV hT hr hc hin e hB hw K w 0 K (by omega) hK
   simp only [Int.natCast_zero,zH] at h82
   simp only [fW,tS,dT (show(i:Int)<(n:Int) by omega),bW,qF (show(i:Int)≠(r:Int) by omega),bN,h82,oB,tU,ap,mF (i:=i) (by omega)]
   exact ih
theorem aNg {n w r c B:Nat} {T:Nat→Nat→Rat} (hT:Bdx n w B T) (hr:r<n) (hc:c<w) (hB:B≤200000000) (hw:w≤100000) (hn:n≤100000) {K:Nat} (hK:w+n<K):sN K (mx T n w) (r:Int) (c:Int)=some (mx (wD T r c) n w):=by
 have e1:=aGX hT hr hc (by omega) hw K w 0 K (by omega) (by omega)
 have e2:=aG5 hT hr hc hB hw hn (K:=K) (by omega) n 0 K (by omega) (by omega)
 have e3:mx (wD T r c) 0 w=[]:=rfl
 rw [e3] at e2
 simp only [Int.natCast_zero,zH] at e1 e2
 simp only [sN,e1,oB,tT,e2,t5]
theorem aOX {xs ys:List Rat} (h:xs.length=ys.length):cpL xs ys=ys:=by
 unfold cpL
 rw [h,Nat.min_self,List.take_length,←h,List.drop_length,List.append_nil]
theorem aDS {rs:List (List Rat)} {o p:Nat} {x:List Rat} (ho:o<rs.length):(rs.set o x).getD p []=if p=o then x else rs.getD p []:=by
 rw [List.getD_eq_getElem?_getD,List.getD_eq_getElem?_getD,List.getElem?_set]
 by_cases h:o=p
 ·subst h;rw [if_pos rfl,if_pos ho,if_pos rfl];rfl
 ·rw [if_neg h,if_neg (fun e=>h e.symm)]
theorem yX.set {n w:Nat} {rs:List (List Rat)} {od:Nat→Nat} {T:Nat→Nat→Rat} (h:yX n w rs od T) {i:Nat} (hi:i<n) (f:Nat→Rat):yX n w (rs.set (od i) (mp f w)) od (jI T i f):=
 ⟨fun j hj=>by rw [List.length_set];exact h.lt j hj,h.inj,fun j hj=>by
  rw [aDS (h.lt i hi)]
  by_cases e:j=i
  ·subst e;rw [if_pos rfl,bD]
  ·rw [if_neg (fun e2=>e (h.inj j i hj hi e2)),cZ e]
   exact h.row j hj⟩
theorem yX.congr {n w:Nat} {rs:List (List Rat)} {od:Nat→Nat} {T T':Nat→Nat→Rat} (h:yX n w rs od T) (e:∀i k,i<n→k<w→T i k=T' i k):yX n w rs od T':=
 ⟨h.lt,h.inj,fun i hi=>by rw [h.row i hi];exact bV fun k hk=>e i k hi hk⟩
theorem aF6 {w v27 B:Nat} {a5:List (List Rat)} {x22:List Rat} {g:Nat→Rat} {p:Rat} (hx:cpL x22 (a5.getD v27 [])=mp g w) (hg:∀k,k<w→Bd B (g k)) (hp:Bd B p) (hB:B≤1073741824) (hw:w≤100000) (K:Nat):∀(t k fu:Nat),k+t=w→t<fu→cR K a5 x22 v27 p fu (mp (fun j=>if j<k then g j/p else g j) w) (k:Int)=some (mp (fun j=>g j/p) w)
 |0,k,fu,hk,hf=>by
  obtain⟨fu',rfl,_⟩:=aZ hf
  have e:k=w:=by omega
  subst e
  simp only [cR,hx,cB,dF (show¬(k:Int)<(k:Int) by omega),bN]
  exact congrArg some (bV fun j hj=>if_pos hj)
 |t+1,k,fu,hk,hf=>by
  obtain⟨fu',rfl,_⟩:=aZ hf
  have hkw:k<w:=by omega
  have e1:(fun j=>if j<k then g j/p else g j) k=g k:=if_neg (by omega)
  have e2:mp (jI (fun j=>if j<k then g j/p else g j) k (g k/p)) w=mp (fun j=>if j<k+1 then g j/p else g j) w:=bV fun j _=>by
   by_cases e:j=k
   ·subst e;rw [bD,if_pos (by omega)]
   ·rw [cZ e]
    by_cases hlt:j<k
    ·rw [if_pos hlt,if_pos (by omega)]
    ·rw [if_neg hlt,if_neg (by omega)]
  simp only [cR,hx,cB,dT (show(k:Int)<(w:Int) by omega),bW,dW (f:=fun j=>if j<k then g j/p else g j) hkw,e1,oB,aAv (hg k hkw) hp hB hB,rF (f:=fun j=>if j<k then g j/p else g j) hkw,e2,mF (i:=k) (by omega)]
  exact aF6 hx hg hp hB hw K t (k+1) fu' (by omega) (by omega)
theorem aEv {w o B:Nat} {a5 x66:List (List Rat)} {g q:Nat→Rat} {x:Rat} (ho:o<x66.length) (hne:a5.length≠o) (h66:x66.getD o []=mp g w) (hq:x66.getD a5.length []=mp q w) (hg:∀k,k<w→Bd B (g k)) (hqb:∀k,k<w→Bd (B+B) (q k)) (hx:Bd B x) (hB:B≤200000000) (hw:w≤100000) (K:Nat):∀(t k fu:Nat),k+t=w→t<fu→cN K a5 x66 o x fu (x66.set o (mp (fun j=>if j<k then g j-x*q j else g j) w)) (k:Int)=some (x66.set o (mp (fun j=>g j-x*q j) w))
 |0,k,fu,hk,hf=>by
  obtain⟨fu',rfl,_⟩:=aZ hf
  have e:k=w:=by omega
  subst e
  simp only [cN,h66,cB,dF (show¬(k:Int)<(k:Int) by omega),bN]
  exact congrArg (fun z=>some (x66.set o z)) (bV fun j hj=>if_pos hj)
 |t+1,k,fu,hk,hf=>by
  obtain⟨fu',rfl,_⟩:=aZ hf
  have hkw:k<w:=by omega
  have e1:(fun j=>if j<k then g j-x*q j else g j) k=g k:=if_neg (by omega)
  have e2:mp (jI (fun j=>if j<k then g j-x*q j else g j) k (g k-x*q k)) w=mp (fun j=>if j<k+1 then g j-x*q j else g j) w:=bV fun j _=>by
   by_cases e:j=k
   ·subst e;rw [bD,if_pos (by omega)]
   ·rw [cZ e]
    by_cases hlt:j<k
    ·rw [if_pos hlt,if_pos (by omega)]
    ·rw [if_neg hlt,if_neg (by omega)]
  have r1:(x66.set o (mp (fun j=>if j<k then g j-x*q j else g j) w)).getD o []=mp (fun j=>if j<k then g j-x*q j else g j) w:=by rw [aDS ho,if_pos rfl]
  have r2:(x66.set o (mp (fun j=>if j<k then g j-x*q j else g j) w)).getD a5.length []=mp q w:=by rw [aDS ho,if_neg hne];exact hq
  simp only [cN,h66,cB,dT (show(k:Int)<(w:Int) by omega),bW,r1,r2,dW (f:=fun j=>if j<k then g j-x*q j else g j) hkw,dW (f:=q) hkw,e1,oB,oH hx (hqb k hkw) (by omega) (by omega),zB (hg k hkw) (hx.mul (hqb k hkw)) (by omega) (by omega),rF (f:=fun j=>if j<k then g j-x*q j else g j) hkw,e2,List.set_set,mF (i:=k) (by omega)]
  exact aEv ho hne h66 hq hg hqb hx hB hw K t (k+1) fu' (by omega) (by omega)
def pst (T:Nat→Nat→Rat) (r c t i k:Nat):Rat:=if i<t∨i=r then wD T r c i k else T i k
theorem aLB {T:Nat→Nat→Rat} {r c t:Nat}:∀i k,(jI (pst T r c t) t (wD T r c t)) i k=pst T r c (t+1) i k:=fun i k=>by
 by_cases e:i=t
 ·subst e;rw [bD];unfold pst;rw [if_pos (.inl (by omega))]
 ·rw [cZ e];unfold pst
  by_cases h:i<t∨i=r
  ·rw [if_pos h,if_pos (by omega)]
  ·rw [if_neg h,if_neg (by omega)]
theorem aGu {T:Nat→Nat→Rat} {r c t:Nat} (h:t=r∨T t c=0):∀i k,pst T r c t i k=pst T r c (t+1) i k:=fun i k=>by
 unfold pst
 by_cases h1:i<t∨i=r
 ·rw [if_pos h1,if_pos (by omega)]
 ·rw [if_neg h1]
  by_cases e:i=t
  ·subst e
   have h2:T i c=0:=by rcases h with h|h;exact absurd (.inr h) h1;exact h
   rw [if_pos (.inl (by omega))]
   unfold wD
   rw [if_neg (fun e=>h1 (.inr e)),h2,Rat.zero_mul,Rat.sub_eq_add_neg,Rat.neg_zero,Rat.add_zero]
  ·rw [if_neg (by omega)]
theorem aBq {n w r c B:Nat} {a5:List (List Rat)} {od:Nat→Nat} {T:Nat→Nat→Rat} (hT:Bdx n w B T) (hr:r<n) (hc:c<w) (hor:od r=a5.length) (hB:B≤200000000) (hw:w≤100000) (hn:n≤100000) {K:Nat} (hK:w<K):∀(t i fu:Nat) (rs:List (List Rat)),i+t=n→t<fu→yX n w rs od (pst T r c i)→∃rs',bA K (r:Int) (c:Int) a5 (mp od n) fu rs (i:Int)=some rs'∧yX n w rs' od (wD T r c)
 |0,i,fu,rs,hk,hf,h=>by
  obtain⟨fu',rfl,_⟩:=aZ hf
  have e:i=n:=by omega
  subst e
  refine⟨rs,by simp only [bA,cB,dF (show¬(i:Int)<(i:Int) by omega),bN],h.congr fun j k hj _=>if_pos (.inl hj)⟩
 |t+1,i,fu,rs,hk,hf,h=>by
  obtain⟨fu',rfl,_⟩:=aZ hf
  have hin:i<n:=by omega
  have hrow:=h.row i hin
  by_cases e:i=r
  ·obtain⟨rs',g1,g2⟩:=aBq hT hr hc hor hB hw hn hK t (i+1) fu' rs (by omega) (by omega) (h.congr fun j k _ _=>aGu (.inl e) j k)
   refine⟨rs',?_,g2⟩
   simp only [bA,cB,dT (show(i:Int)<(n:Int) by omega),bW,dW (f:=od) hin,oB,hrow,dW (f:=pst T r c i i) hc,qT (show(i:Int)=(r:Int) by omega),mF (i:=i) (by omega)]
   exact g1
  ·have ei:pst T r c i i=T i:=by funext k;unfold pst;rw [if_neg (by omega)]
   rw [ei] at hrow
   by_cases hz:T i c=0
   ·obtain⟨rs',g1,g2⟩:=aBq hT hr hc hor hB hw hn hK t (i+1) fu' rs (by omega) (by omega) (h.congr fun j k _ _=>aGu (.inr hz) j k)
    refine⟨rs',?_,g2⟩
    simp only [bA,cB,dT (show(i:Int)<(n:Int) by omega),bW,dW (f:=od) hin,oB,hrow,dW (f:=T i) hc,qF (show(i:Int)≠(r:Int) by omega),bN,mY (hT i c hin hc) (by omega),qT (aFo.2 hz),mF (i:=i) (by omega)]
    exact g1
   ·have hne:a5.length≠od i:=fun h2=>e (h.inj i r hin hr (by rw [←h2,hor]))
    have hq:rs.getD a5.length []=mp (w9 T r c) w:=by
     rw [←hor,h.row r hr]
     exact bV fun k _=>by unfold pst wD w9;rw [if_pos (.inr rfl),if_pos rfl]
    have h112:=aEv (h.lt i hin) hne hrow hq (fun k hk=>hT i k hin hk) (fun k hk=>aIH hT hr hc hk) (hT i c hin hc) hB hw K w 0 K (by omega) hK
    have e0:rs.set (od i) (mp (fun j=>if j<0 then T i j-T i c*w9 T r c j else T i j) w)=rs:=by
     have e9:mp (fun j=>if j<0 then T i j-T i c*w9 T r c j else T i j) w=rs.getD (od i) []:=by
      rw [hrow];exact bV fun j _=>if_neg (by omega)
     rw [e9,List.getD_eq_getElem?_getD,List.getElem?_eq_getElem (h.lt i hin),Option.getD_some,List.set_getElem_self]
    rw [e0] at h112
    simp only [Int.natCast_zero] at h112
    have e1:mp (fun j=>T i j-T i c*w9 T r c j) w=mp (wD T r c i) w:=bV fun j _=>by unfold wD w9;rw [if_neg e]
    rw [e1] at h112
    obtain⟨rs',g1,g2⟩:=aBq hT hr hc hor hB hw hn hK t (i+1) fu' _ (by omega) (by omega) ((h.set hin (wD T r c i)).congr fun j k _ _=>aLB j k)
    refine⟨rs',?_,g2⟩
    simp only [bA,cB,dT (show(i:Int)<(n:Int) by omega),bW,dW (f:=od) hin,oB,hrow,dW (f:=T i) hc,qF (show(i:Int)≠(r:Int) by omega),bN,mY (hT i c hin hc) (by omega),qF (fun h2=>hz (aFo.1 h2)),h112,gG,mF (i:=i) (by omega)]
    exact g1
theorem aMw {n w r c B:Nat} {rs:List (List Rat)} {od b:Nat→Nat} {T:Nat→Nat→Rat} {a2:Int} (h:yX n w rs od T) (hT:Bdx n w B T) (hr:r<n) (hc:c<w) (hB:B≤200000000) (hw:w≤100000) (hn:n≤100000) {K:Nat} (hK:w+n<K):∃rs' od',gC K (r:Int) (c:Int) a2 (mp od n) (mp (fun i=>((b i:Nat):Int)) n) rs=some (((b r:Nat):Int),mp od' n,mp (fun i=>((jI b r c i:Nat):Int)) n,rs')∧yX n w rs' od' (wD T r c):=by
 have hrow:=h.row r hr
 have hcp:cpL (mp (fun _=>(0:Rat)) w) (rs.getD (od r) [])=mp (T r) w:=by rw [hrow];exact aOX (by rw [cB,cB])
 have h53:=aF6 hcp (fun k hk=>hT r k hr hk) (hT r c hr hc) (by omega) hw K w 0 K (by omega) (by omega)
 have e0:mp (fun j=>if j<0 then T r j/T r c else T r j) w=mp (T r) w:=bV fun j _=>if_neg (by omega)
 rw [e0] at h53
 have h0:yX n w (rs++[mp (w9 T r c) w]) (jI od r rs.length) (pst T r c 0):=by
  refine⟨fun i hi=>?_,fun i j hi hj e=>?_,fun i hi=>?_⟩
  ·by_cases e:i=r
   ·rw [e,bD];simp
   ·rw [cZ e];have:=h.lt i hi;simp;omega
  ·by_cases e1:i=r
   ·by_cases e2:j=r
    ·rw [e1,e2]
    ·rw [e1,bD,cZ e2] at e;have:=h.lt j hj;omega
   ·by_cases e2:j=r
    ·rw [e2,bD,cZ e1] at e;have:=h.lt i hi;omega
    ·rw [cZ e1,cZ e2] at e;exact h.inj i j hi hj e
  ·by_cases e:i=r
   ·rw [e,bD,List.getD_eq_getElem?_getD,List.getElem?_append_right (Nat.le_refl _),Nat.sub_self]
    show mp (w9 T r c) w=_
    exact bV fun k _=>by unfold pst wD w9;rw [if_pos (.inr rfl),if_pos rfl]
   ·have hl:=h.lt i hi
    rw [cZ e,List.getD_eq_getElem?_getD,List.getElem?_append_left hl,←List.getD_eq_getElem?_getD,h.row i hi]
    exact bV fun k _=>by unfold pst;rw [if_neg (by omega)]
 obtain⟨rs',g1,g2⟩:=aBq (a5:=rs) hT hr hc bD hB hw hn (K:=K) (by omega) n 0 K _ (by omega) (by omega) h0
 simp only [Int.natCast_zero] at h53 g1
 have e3:mp (fun j=>T r j/T r c) w=mp (w9 T r c) w:=rfl
 rw [e3] at h53
 have e4:mp (jI (fun i=>((b i:Nat):Int)) r (c:Int)) n=mp (fun i=>((jI b r c i:Nat):Int)) n:=bV fun i _=>by
  by_cases e:i=r
  ·rw [e,bD,bD]
  ·rw [cZ e,cZ e]
 refine⟨rs',jI od r rs.length,?_,g2⟩
 simp only [gC,dW (f:=od) hr,oB,hrow,cB,aAx (z:=(0:Rat)) (n:=w) (by omega)]
 rw [←hrow,hcp]
 simp only [dW (f:=T r) hc,oB,h53,gK,dW (f:=od) hr,rF (f:=od) hr,g1,gJ,dW (f:=fun i=>((b i:Nat):Int)) hr,rF (f:=fun i=>((b i:Nat):Int)) hr,e4]
end Go.Proofs.YtcjdedkdoagifaaGreat
set_option linter.unusedVariables false
namespace Go.Proofs.YtcjdedkdoagifaaGreat
def enc (s:Option Nat):Int:=match s with|none=>-1|some r=>(r:Int)
def sel (T:Nat→Nat→Rat) (n c:Nat):Nat→Nat→Option Nat→Option Nat
 |0,_,s=>s
 |t+1,i,s=>bif decide (0<(T i c).num.sign) then(match s with
  |none=>sel T n c t (i+1) (some i)
  |some r=>bif les T n i (T i c) r (T r c) then sel T n c t (i+1) (some i) else sel T n c t (i+1) (some r)) else sel T n c t (i+1) s
theorem xV {T:Nat→Nat→Rat} {n c:Nat}:∀t i s r,(∀q,s=some q→q<i∧0<(T q c).num.sign)→sel T n c t i s=some r→r<i+t∧0<(T r c).num.sign
 |0,i,s,r,h,e=>by have:=h r e;exact⟨by omega,this.2⟩
 |t+1,i,s,r,h,e=>by
  unfold sel at e
  by_cases hp:0<(T i c).num.sign
  ·rw [decide_eq_true hp,bW] at e
   have hi:∀q,some i=some q→q<i+1∧0<(T q c).num.sign:=fun q hq=>by cases hq;exact⟨by omega,hp⟩
   cases s with
   |none=>have:=xV t (i+1) (some i) r hi e;exact⟨by omega,this.2⟩
   |some p=>
    have hs:∀q,some p=some q→q<i+1∧0<(T q c).num.sign:=fun q hq=>by have:=h q hq;exact⟨by omega,this.2⟩
    simp only at e
    cases hl:les T n i (T i c) p (T p c)
    ·rw [hl,bN] at e;have:=xV t (i+1) (some p) r hs e;exact⟨by omega,this.2⟩
    ·rw [hl,bW] at e;have:=xV t (i+1) (some i) r hi e;exact⟨by omega,this.2⟩
  ·rw [decide_eq_false hp,bN] at e
   have:=xV t (i+1) s r (fun q hq=>by have:=h q hq;exact⟨by omega,this.2⟩) e
   exact⟨by omega,this.2⟩
theorem aEC {n c B:Nat} {rs:List (List Rat)} {od:Nat→Nat} {T:Nat→Nat→Rat} {v6:Int×(List Nat)×(List Int)×(List (List Rat))} {x:Int} {bs:List Int} (h6:v6.1=(n:Int)) (h:yX n (2*n+2) rs od T) (hT:Bdx n (2*n+2) B T) (hc:c<2*n+2) (hB:B≤200000000) (hn:n≤1000) {K:Nat} (hK:2000≤K):∀(t i fu:Nat) (s:Option Nat),i+t=n→t<fu→(∀q,s=some q→q<i)→dD K v6 (x,mp od n,bs,rs) (c:Int) fu (enc s) (i:Int)=some (enc (sel T n c t i s))
 |0,i,fu,s,hi,hf,hs=>by
  obtain⟨fu',rfl,_⟩:=aZ hf
  simp only [dD,cB,dF (show¬(i:Int)<(n:Int) by omega),bN,sel]
 |t+1,i,fu,s,hi,hf,hs=>by
  obtain⟨fu',rfl,_⟩:=aZ hf
  have hin:i<n:=by omega
  have hb:=hT i c hin hc
  have ih:=fun s hs=>aEC (x:=x) (bs:=bs) h6 h hT hc hB hn hK t (i+1) fu' s (by omega) (by omega) hs
  simp only [dD,cB,dT (show(i:Int)<(n:Int) by omega),bW,dW (f:=od) hin,oB,h.row i hin,dW (f:=T i) hc,mY hb (by omega),sel]
  by_cases hp:0<(T i c).num.sign
  ·simp only [dT hp,bW]
   cases s with
   |none=>
    simp only [enc,dT (show(-1:Int)<0 by omega),bW,mF (i:=i) (by omega),oB]
    exact ih (some i) (fun q hq=>by cases hq;omega)
   |some p=>
    have hpn:p<n:=by have:=hs p rfl;omega
    have hl:=aGw (a6:=bs) h hT hin hpn hb (hT p c hpn hc) (by omega) hn hK
    simp only [enc,dF (show¬(p:Int)<0 by omega),bN,dW (f:=od) hpn,h.row p hpn,dW (f:=T p) hc,oB,h6,hl]
    cases les T n i (T i c) p (T p c)
    ·simp only [bN,mF (i:=i) (by omega),oB]
     exact ih (some p) (fun q hq=>by have:=hs q hq;omega)
    ·simp only [bW,mF (i:=i) (by omega),oB]
     exact ih (some i) (fun q hq=>by cases hq;omega)
  ·simp only [dF hp,bN,mF (i:=i) (by omega),oB]
   exact ih s (fun q hq=>by have:=hs q hq;omega)
theorem aEJ {n c B:Nat} {T:Nat→Nat→Rat} {a1:List Rat} (h1:a1.length=n) (hT:Bdx n (2*n+2) B T) (hc:c<2*n+2) (hB:B≤200000000) (hn:n≤1000) {K:Nat} (hK:2000≤K):∀(t i fu:Nat) (s:Option Nat),i+t=n→t<fu→(∀q,s=some q→q<i)→eF K a1 (mx T n (2*n+2)) (c:Int) fu (enc s) (i:Int)=some (enc (sel T n c t i s))
 |0,i,fu,s,hi,hf,hs=>by
  obtain⟨fu',rfl,_⟩:=aZ hf
  simp only [eF,h1,dF (show¬(i:Int)<(n:Int) by omega),bN,sel]
 |t+1,i,fu,s,hi,hf,hs=>by
  obtain⟨fu',rfl,_⟩:=aZ hf
  have hin:i<n:=by omega
  have hb:=hT i c hin hc
  have ih:=fun s hs=>aEJ h1 hT hc hB hn hK t (i+1) fu' s (by omega) (by omega) hs
  simp only [eF,h1,dT (show(i:Int)<(n:Int) by omega),bW,aA2 (g:=T) (w:=2*n+2) hin,oB,dW (f:=T i) hc,mY hb (by omega),sel]
  by_cases hp:0<(T i c).num.sign
  ·simp only [dT hp,dF (show¬(T i c).num.sign≤0 by omega),bW,bN]
   cases s with
   |none=>
    simp only [enc,dT (show(-1:Int)<0 by omega),bW,mF (i:=i) (by omega),oB]
    exact ih (some i) (fun q hq=>by cases hq;omega)
   |some p=>
    have hpn:p<n:=by have:=hs p rfl;omega
    have hbp:=hT p c hpn hc
    have hl:=aEf hT hin hpn hb hbp (by omega) hn hK
    simp only [enc,dF (show¬(p:Int)<0 by omega),bN,aFU hT hin hb (by omega) (by omega) hn hK,aA2 (g:=T) (w:=2*n+2) hpn,dW (f:=T p) hc,oB,aFU hT hpn hbp (by omega) (by omega) hn hK,hl]
    cases les T n i (T i c) p (T p c)
    ·simp only [bN,mF (i:=i) (by omega),oB]
     exact ih (some p) (fun q hq=>by have:=hs q hq;omega)
    ·simp only [bW,mF (i:=i) (by omega),oB]
     exact ih (some i) (fun q hq=>by cases hq;omega)
  ·simp only [dF hp,dT (show(T i c).num.sign≤0 by omega),bW,bN,mF (i:=i) (by omega),oB]
   exact ih s (fun q hq=>by have:=hs q hq;omega)
def swv (T:Nat→Nat→Rat) (b:Nat→Nat) (n:Nat):Nat→Nat→Rat
 |0=>z0
 |i+1=>if b i<n then jI (swv T b n i) (b i) (T i (2*n+1)) else swv T b n i
def szv (T:Nat→Nat→Rat) (b:Nat→Nat) (n:Nat):Nat→Nat→Rat
 |0=>z0
 |i+1=>if b i<n then szv T b n i else if b i<2*n then jI (szv T b n i) (b i-n) (T i (2*n+1)) else szv T b n i
theorem aGq {n:Nat} {rs:List (List Rat)} {od b:Nat→Nat} {T:Nat→Nat→Rat} (h:yX n (2*n+2) rs od T) (hn:n≤1000) (K:Nat):∀(t i fu:Nat),i+t=n→t<fu→bJ K (n:Int) (mp od n) (mp (fun i=>((b i:Nat):Int)) n) rs fu (mp (swv T b n i) n) (mp (szv T b n i) n) (i:Int)=some (mp (swv T b n n) n,mp (szv T b n n) n)
 |0,i,fu,hi,hf=>by
  obtain⟨fu',rfl,_⟩:=aZ hf
  have e:i=n:=by omega
  subst e
  simp only [bJ,cB,dF (show¬(i:Int)<(i:Int) by omega),bN]
 |t+1,i,fu,hi,hf=>by
  obtain⟨fu',rfl,_⟩:=aZ hf
  have hin:i<n:=by omega
  have ih:=aGq (b:=b) h hn K t (i+1) fu' (by omega) (by omega)
  have c1:aP (2*(n:Int))=some (2*(n:Int)):=kD (by omega)
  have c2:aP (2*(n:Int)+1)=some ((2*n+1:Nat):Int):=by rw [kD (by omega)];congr 1
  simp only [bJ,cB,dT (show(i:Int)<(n:Int) by omega),bW,dW (f:=fun i=>((b i:Nat):Int)) hin,dW (f:=od) hin,oB,c1,c2,h.row i hin,dW (f:=T i) (n:=2*n+2) (i:=2*n+1) (by omega)]
  by_cases h1:b i<n
  ·have e1:swv T b n (i+1)=jI (swv T b n i) (b i) (T i (2*n+1)):=if_pos h1
   have e2:szv T b n (i+1)=szv T b n i:=if_pos h1
   rw [e1,e2] at ih
   simp only [dT (show((b i:Nat):Int)<(n:Int) by omega),bW,dW (f:=swv T b n i) h1,rF (f:=swv T b n i) h1,oB,mF (i:=i) (by omega)]
   exact ih
  ·have e1:swv T b n (i+1)=swv T b n i:=if_neg h1
   by_cases h2:b i<2*n
   ·have e2:szv T b n (i+1)=jI (szv T b n i) (b i-n) (T i (2*n+1)):=by
     show(if b i<n then _ else _)=_
     rw [if_neg h1,if_pos h2]
    have c3:aP (((b i:Nat):Int)-(n:Int))=some ((b i-n:Nat):Int):=by rw [show((b i:Nat):Int)-(n:Int)=((b i-n:Nat):Int) by omega,kD (by omega)]
    rw [e1,e2] at ih
    simp only [dF (show¬((b i:Nat):Int)<(n:Int) by omega),bN,dT (show((b i:Nat):Int)<2*(n:Int) by omega),bW,c3,oB,dW (f:=szv T b n i) (n:=n) (i:=b i-n) (by omega),rF (f:=szv T b n i) (n:=n) (i:=b i-n) (by omega),mF (i:=i) (by omega)]
    exact ih
   ·have e2:szv T b n (i+1)=szv T b n i:=by
     show(if b i<n then _ else _)=_
     rw [if_neg h1,if_neg h2]
    rw [e1,e2] at ih
    simp only [dF (show¬((b i:Nat):Int)<(n:Int) by omega),bN,dF (show¬((b i:Nat):Int)<2*(n:Int) by omega),mF (i:=i) (by omega),oB]
    exact ih
theorem aJm {n:Nat} {rs:List (List Rat)} {od b:Nat→Nat} {T:Nat→Nat→Rat} (h:yX n (2*n+2) rs od T) (hn:n≤1000) {K:Nat} (hK:2000≤K):eI K (n:Int) (mp od n) (mp (fun i=>((b i:Nat):Int)) n) rs=some ⟨mp (szv T b n n) n,mp (swv T b n n) n,0⟩:=by
 have:=aGq (b:=b) h hn K n 0 K (by omega) (by omega)
 simp only [Int.natCast_zero] at this
 have e:mp (fun _=>(0:Rat)) n=mp (swv T b n 0) n:=rfl
 have e2:mp (swv T b n 0) n=mp (szv T b n 0) n:=rfl
 simp only [eI,aAx (z:=(0:Rat)) (n:=n) (by omega),oB,e]
 rw [show bJ K (n:Int) (mp od n) (mp (fun i=>((b i:Nat):Int)) n) rs K (mp (swv T b n 0) n) (mp (swv T b n 0) n) 0=_ from this]
 rfl
theorem aEO {n:Nat} {b:Nat→Nat} {T:Nat→Nat→Rat} {a1:List Rat} (h1:a1.length=n) (hb:∀i,i<n→b i<2*n) (hn:n≤1000) (K:Nat):∀(t i fu:Nat),i+t=n→t<fu→fO K a1 (mx T n (2*n+2)) (mp (fun i=>((b i:Nat):Int)) n) fu (mp (swv T b n i) n) (mp (szv T b n i) n) (i:Int)=some (mp (swv T b n n) n,mp (szv T b n n) n)
 |0,i,fu,hi,hf=>by
  obtain⟨fu',rfl,_⟩:=aZ hf
  have e:i=n:=by omega
  subst e
  simp only [fO,h1,dF (show¬(i:Int)<(i:Int) by omega),bN]
 |t+1,i,fu,hi,hf=>by
  obtain⟨fu',rfl,_⟩:=aZ hf
  have hin:i<n:=by omega
  have ih:=aEO (T:=T) h1 hb hn K t (i+1) fu' (by omega) (by omega)
  have c1:aP (2*(n:Int))=some (2*(n:Int)):=kD (by omega)
  have c2:aP (2*(n:Int)+1)=some ((2*n+1:Nat):Int):=by rw [kD (by omega)];congr 1
  have h2:=hb i hin
  simp only [fO,h1,dT (show(i:Int)<(n:Int) by omega),bW,dW (f:=fun i=>((b i:Nat):Int)) hin,oB]
  by_cases h3:b i<n
  ·have e1:swv T b n (i+1)=jI (swv T b n i) (b i) (T i (2*n+1)):=if_pos h3
   have e2:szv T b n (i+1)=szv T b n i:=if_pos h3
   rw [e1,e2] at ih
   simp only [dT (show((b i:Nat):Int)<(n:Int) by omega),bW,aA2 (g:=T) (w:=2*n+2) hin,c1,c2,oB,dW (f:=T i) (n:=2*n+2) (i:=2*n+1) (by omega),dW (f:=swv T b n i) h3,rF (f:=swv T b n i) h3,mF (i:=i) (by omega)]
   exact ih
  ·have e1:swv T b n (i+1)=swv T b n i:=if_neg h3
   have e2:szv T b n (i+1)=jI (szv T b n i) (b i-n) (T i (2*n+1)):=by
    show(if b i<n then _ else _)=_
    rw [if_neg h3,if_pos h2]
   have c3:aP (((b i:Nat):Int)-(n:Int))=some ((b i-n:Nat):Int):=by rw [show((b i:Nat):Int)-(n:Int)=((b i-n:Nat):Int) by omega,kD (by omega)]
   rw [e1,e2] at ih
   simp only [dF (show¬((b i:Nat):Int)<(n:Int) by omega),bN,c3,aA2 (g:=T) (w:=2*n+2) hin,c1,c2,oB,dW (f:=T i) (n:=2*n+2) (i:=2*n+1) (by omega),dW (f:=szv T b n i) (n:=n) (i:=b i-n) (by omega),rF (f:=szv T b n i) (n:=n) (i:=b i-n) (by omega),mF (i:=i) (by omega)]
   exact ih
end Go.Proofs.YtcjdedkdoagifaaGreat
set_option linter.unusedVariables false
namespace Go.Proofs.YtcjdedkdoagifaaGreat
/-- The run from a tableau on. -/
def lem (n most:Nat):Nat→(Nat→Nat→Rat)→(Nat→Nat)→Nat→Nat→Nat→aM×Int
 |0,_,_,_,_,_=>(⟨[],[],0⟩,16)
 |f+1,T,b,r,c,cnt=>
  if cnt=most then(⟨[],[],0⟩,16)
  else if b r=2*n then(⟨mp (szv (wD T r c) (jI b r c) n n) n,mp (swv (wD T r c) (jI b r c) n n) n,((cnt+1:Nat):Int)⟩,0)
  else match sel (wD T r c) n (if b r<n then b r+n else b r-n) n 0 none with
   |none=>(⟨[],[],0⟩,15)
   |some r'=>lem n most f (wD T r c) (jI b r c) r' (if b r<n then b r+n else b r-n) (cnt+1)
structure LI (n:Nat) (Z T:Nat→Nat→Rat) (b:Nat→Nat) (r c:Nat):Prop where
 ti:TI n (2*n+2) Z T b
 hr:r<n
 hc:c≤2*n
 hp:T r c≠0
 hb:∀j,j<n→b j≤2*n
 fst:c=2*n→b r≠2*n
theorem TI.inj {n w:Nat} {Z T:Nat→Nat→Rat} {b:Nat→Nat} (h:TI n w Z T b) {i j:Nat} (hi:i<n) (hj:j<n) (e:b i=b j):i=j:=by
 by_cases h1:i=j
 ·exact h1
 ·have a:=h.un i i hi hi
  have c:=h.un i j hi hj
  rw [if_pos rfl,e] at a
  rw [if_neg h1,a] at c
  exact absurd c (by decide)
theorem aFm {n x:Nat} (hx:x≤2*n) (hne:x≠2*n):(if x<n then x+n else x-n)<2*n:=by split<;>omega
theorem LI.next {n:Nat} {Z T:Nat→Nat→Rat} {b:Nat→Nat} {r c r':Nat} (h:LI n Z T b r c) (hne:b r≠2*n) (hs:sel (wD T r c) n (if b r<n then b r+n else b r-n) n 0 none=some r'):LI n Z (wD T r c) (jI b r c) r' (if b r<n then b r+n else b r-n):=by
 have hlt:=aFm (h.hb r h.hr) hne
 obtain⟨s1,s2⟩:=xV n 0 none r' (fun q hq=>by cases hq) hs
 refine⟨h.ti.pivot h.hr (by have:=h.hc;omega) h.hp,by omega,by omega,fun e=>?_,fun j hj=>?_,fun e=>by omega⟩
 ·rw [e] at s2;exact absurd s2 (by decide)
 ·by_cases e:j=r
  ·rw [e,bD];exact h.hc
  ·rw [cZ e];exact h.hb j hj
def Sm (n B:Nat) (Z:Nat→Nat→Rat):Prop:=∀T b,TI n (2*n+2) Z T b→Bdx n (2*n+2) B T
theorem aQu {n most B:Nat} {Z:Nat→Nat→Rat} {v6:Int×(List Nat)×(List Int)×(List (List Rat))} (h6:v6.1=(n:Int)) (hZ:Sm n B Z) (hB:B≤200000000) (hn:n≤1000) (hm:most≤100000) {K:Nat} (hK:5000≤K):∀(f cnt fu:Nat) (rs:List (List Rat)) (od:Nat→Nat) (T:Nat→Nat→Rat) (b:Nat→Nat) (r c:Nat),cnt+f=most+1→0<f→f≤fu→yX n (2*n+2) rs od T→LI n Z T b r c→
  cV K (most:Int) v6 fu (mp od n) (mp (fun i=>((b i:Nat):Int)) n) rs (r:Int) (c:Int) (cnt:Int)=some (.ret (lem n most f T b r c cnt))
 |0,cnt,fu,rs,od,T,b,r,c,hc,h0,hf,hR,h=>by omega
 |f+1,cnt,fu,rs,od,T,b,r,c,hc,h0,hf,hR,h=>by
  obtain⟨fu',rfl,hf'⟩:=aZ (show f<fu by omega)
  unfold lem
  by_cases e:cnt=most
  ·rw [if_pos e]
   simp only [cV,qT (show(cnt:Int)=(most:Int) by omega),bW]
  ·rw [if_neg e]
   have hcw:=h.hc
   have hT:=hZ T b h.ti
   have ti':=h.ti.pivot h.hr (show c<2*n+2 by omega) h.hp
   have hT':=hZ _ _ ti'
   obtain⟨rs',od',p1,p2⟩:=aMw (b:=b) (a2:=v6.1) hR hT h.hr (show c<2*n+2 by omega) hB (by omega) (by omega) (K:=K) (by omega)
   have hbr:=h.hb r h.hr
   have c1:aP (2*(n:Int))=some (2*(n:Int)):=kD (by omega)
   rw [h6] at p1
   simp only [cV,qF (show(cnt:Int)≠(most:Int) by omega),bN,h6,p1,oB,c1]
   by_cases e2:b r=2*n
   ·rw [if_pos e2]
    simp only [qT (show((b r:Nat):Int)=2*(n:Int) by omega),bW,aJm (b:=jI b r c) p2 hn (show 2000≤K by omega),oB,mF (i:=cnt) (by omega)]
   ·rw [if_neg e2]
    have hlt:=aFm hbr e2
    have c2:aP (((b r:Nat):Int)+(n:Int))=some ((b r+n:Nat):Int):=by rw [kD (by omega)];rfl
    have hsel:=aEC (v6:=v6) (x:=((b r:Nat):Int)) (bs:=mp (fun i=>((jI b r c i:Nat):Int)) n) h6 p2 hT' (show(if b r<n then b r+n else b r-n)<2*n+2 by omega) hB hn (show 2000≤K by omega) n 0 K none (by omega) (by omega) (fun q hq=>by cases hq)
    simp only [Int.natCast_zero,show enc none=(-1:Int) from rfl] at hsel
    have key:hY K v6 (cnt:Int) (((b r:Nat):Int),mp od' n,mp (fun i=>((jI b r c i:Nat):Int)) n,rs') (cV K (most:Int) v6 fu') (((if b r<n then b r+n else b r-n:Nat)):Int)=some (.ret (match sel (wD T r c) n (if b r<n then b r+n else b r-n) n 0 none with|none=>(⟨[],[],0⟩,15)|some r'=>lem n most f (wD T r c) (jI b r c) r' (if b r<n then b r+n else b r-n) (cnt+1))):=by
     simp only [hY,hsel,oB,mZ]
     cases hs:sel (wD T r c) n (if b r<n then b r+n else b r-n) n 0 none with
     |none=>rfl
     |some r'=>
      simp only [enc,dF (show¬(r':Int)<0 by omega),bN,mF (i:=cnt) (by omega),oB]
      exact aQu h6 hZ hB hn hm hK f (cnt+1) fu' rs' od' _ _ r' _ (by omega) (by omega) (by omega) p2 (h.next e2 hs)
    simp only [qF (show((b r:Nat):Int)≠2*(n:Int) by omega),bN,c2,oB]
    by_cases h3:b r<n
    ·rw [if_pos h3] at key
     simp only [dF (show¬(n:Int)≤((b r:Nat):Int) by omega),bN,if_pos h3]
     exact key
    ·rw [if_neg h3] at key
     have c3:aP (((b r:Nat):Int)-(n:Int))=some ((b r-n:Nat):Int):=by rw [show((b r:Nat):Int)-(n:Int)=((b r-n:Nat):Int) by omega,kD (by omega)]
     simp only [dT (show(n:Int)≤((b r:Nat):Int) by omega),bW,c3,oB,if_neg h3]
     exact key
theorem aQZ {n most B:Nat} {Z:Nat→Nat→Rat} {a1:List Rat} (h1:a1.length=n) (hZ:Sm n B Z) (hB:B≤200000000) (hn:n≤1000) (hm:most≤100000) {K:Nat} (hK:5000≤K):∀(f cnt fu:Nat) (T:Nat→Nat→Rat) (b:Nat→Nat) (r c:Nat),cnt+f=most+1→0<f→f≤fu→LI n Z T b r c→
  kL K a1 (most:Int) fu (mp (fun i=>((b i:Nat):Int)) n) (mx T n (2*n+2)) (r:Int) (c:Int) (cnt:Int)=some (.ret (lem n most f T b r c cnt))
 |0,cnt,fu,T,b,r,c,hc,h0,hf,h=>by omega
 |f+1,cnt,fu,T,b,r,c,hc,h0,hf,h=>by
  obtain⟨fu',rfl,hf'⟩:=aZ (show f<fu by omega)
  unfold lem
  by_cases e:cnt=most
  ·rw [if_pos e]
   simp only [kL,qT (show(cnt:Int)=(most:Int) by omega),bW]
  ·rw [if_neg e]
   have hcw:=h.hc
   have hr:=h.hr
   have hT:=hZ T b h.ti
   have ti':=h.ti.pivot h.hr (show c<2*n+2 by omega) h.hp
   have hT':=hZ _ _ ti'
   have p1:=aNg hT h.hr (show c<2*n+2 by omega) hB (by omega) (by omega) (K:=K) (by omega)
   have hbr:=h.hb r h.hr
   have c1:aP (2*(n:Int))=some (2*(n:Int)):=kD (by omega)
   have e4:mp (jI (fun i=>((b i:Nat):Int)) r (c:Int)) n=mp (fun i=>((jI b r c i:Nat):Int)) n:=bV fun i _=>by
    by_cases e:i=r
    ·rw [e,bD,bD]
    ·rw [cZ e,cZ e]
   simp only [kL,qF (show(cnt:Int)≠(most:Int) by omega),bN,p1,oB,mF (i:=cnt) (by omega),dW (f:=fun i=>((b i:Nat):Int)) hr,rF (f:=fun i=>((b i:Nat):Int)) hr,e4,h1,c1]
   by_cases e2:b r=2*n
   ·rw [if_pos e2]
    have hb2:∀i,i<n→jI b r c i<2*n:=fun i hi=>by
     by_cases ei:i=r
     ·rw [ei,bD]
      have:=h.fst
      by_cases ec:c=2*n
      ·exact absurd e2 (this ec)
      ·omega
     ·rw [cZ ei]
      have h5:=h.hb i hi
      by_cases e6:b i=2*n
      ·exact absurd (h.ti.inj hi hr (by rw [e6,e2])) ei
      ·omega
    have hs:=aEO (T:=wD T r c) h1 hb2 hn K n 0 K (by omega) (by omega)
    simp only [Int.natCast_zero] at hs
    have z1:mp (fun _=>(0:Rat)) n=mp (swv (wD T r c) (jI b r c) n 0) n:=rfl
    have hs':fO K a1 (mx (wD T r c) n (2*n+2)) (mp (fun i=>((jI b r c i:Nat):Int)) n) K (mp (fun _=>(0:Rat)) n) (mp (fun _=>(0:Rat)) n) 0=some (mp (swv (wD T r c) (jI b r c) n n) n,mp (szv (wD T r c) (jI b r c) n n) n):=hs
    simp only [qT (show((b r:Nat):Int)=2*(n:Int) by omega),bW,aAx (z:=(0:Rat)) (n:=n) (by omega),oB,hs',s9]
   ·rw [if_neg e2]
    have hlt:=aFm hbr e2
    have c2:aP (((b r:Nat):Int)+(n:Int))=some ((b r+n:Nat):Int):=by rw [kD (by omega)];rfl
    have c3:u8 ((b r+n:Nat):Int) (2*(n:Int))=some (((if b r<n then b r+n else b r-n:Nat)):Int):=by
     rw [mM (by omega) (by omega)]
     congr 1
     by_cases h3:b r<n
     ·rw [if_pos h3,Int.emod_eq_of_lt (by omega) (by omega)]
     ·rw [if_neg h3,show((b r+n:Nat):Int)=((b r-n:Nat):Int)+2*(n:Int) by omega,Int.add_emod_right,Int.emod_eq_of_lt (by omega) (by omega)]
    have hsel:=aEJ h1 hT' (show(if b r<n then b r+n else b r-n)<2*n+2 by omega) hB hn (show 2000≤K by omega) n 0 K none (by omega) (by omega) (fun q hq=>by cases hq)
    simp only [Int.natCast_zero,show enc none=(-1:Int) from rfl] at hsel
    simp only [qF (show((b r:Nat):Int)≠2*(n:Int) by omega),bN,c2,oB,c3,hsel,tB]
    cases hs:sel (wD T r c) n (if b r<n then b r+n else b r-n) n 0 none with
    |none=>rfl
    |some r'=>
     simp only [enc,dF (show¬(r':Int)<0 by omega),bN]
     exact aQZ h1 hZ hB hn hm hK f (cnt+1) fu' _ _ r' _ (by omega) (by omega) (by omega) (h.next e2 hs)
end Go.Proofs.YtcjdedkdoagifaaGreat
set_option linter.unusedVariables false
namespace Go.Proofs.YtcjdedkdoagifaaGreat
theorem aHb {l:List Rat} {B:Nat} (hl:u7 B l) (hB:B≤1073741824) (hn:l.length≤1000) (K:Nat):∀(t i k:Nat),i+t=l.length→t<k→iK K l k (i:Int)=some (.go ())
 |0,i,k,hi,hk=>by
  obtain⟨k',rfl,_⟩:=aZ hk
  simp only [iK,dF (show¬(i:Int)<(l.length:Int) by omega),bN]
 |t+1,i,k,hi,hk=>by
  obtain⟨k',rfl,_⟩:=aZ hk
  simp only [iK,dT (show(i:Int)<(l.length:Int) by omega),bW,aDU (l:=l) (i:=i) (by omega),oB,vI (hl _ (tP (l:=l) (i:=i) (by omega))) hB,Bool.not_true,bN,mF (i:=i) (by omega)]
  exact aHb hl hB hn K t (i+1) k' (by omega) (by omega)
theorem aG0 {l:List Rat} {B:Nat} (hl:u7 B l) (hB:B≤1073741824) (hn:l.length≤1000) {K:Nat} (hK:l.length<K):m5 K l=some true:=by
 have:=aHb hl hB hn K l.length 0 K (by omega) hK
 simp only [Int.natCast_zero] at this
 simp only [m5,this,oB,pA]
theorem aD4 {l:List Rat} {B:Nat} (hl:u7 B l) (hB:B≤1073741824) (hn:l.length≤1000) (K:Nat):∀(t i k:Nat),i+t=l.length→t<k→l6 K l k (i:Int)=some (.go ())
 |0,i,k,hi,hk=>by
  obtain⟨k',rfl,_⟩:=aZ hk
  simp only [l6,dF (show¬(i:Int)<(l.length:Int) by omega),bN]
 |t+1,i,k,hi,hk=>by
  obtain⟨k',rfl,_⟩:=aZ hk
  simp only [l6,dT (show(i:Int)<(l.length:Int) by omega),bW,aDU (l:=l) (i:=i) (by omega),oB,vI (hl _ (tP (l:=l) (i:=i) (by omega))) hB,Bool.not_true,bN,mF (i:=i) (by omega)]
  exact aD4 hl hB hn K t (i+1) k' (by omega) (by omega)
theorem aEH {l:List Rat} {B:Nat} (hl:u7 B l) (hB:B≤1073741824) (hn:l.length≤1000) {K:Nat} (hK:l.length<K):qG K l=some true:=by
 have:=aD4 hl hB hn K l.length 0 K (by omega) hK
 simp only [Int.natCast_zero] at this
 simp only [qG,this,oB,uX]
theorem aEa {M:Nat→Nat→Rat} {q:Nat→Rat} {n B:Nat} (hM:Bdx n n B M) (hB:B≤1073741824) (hn:n≤32) {K:Nat} (hK:100≤K):∀(t i k:Nat),i+t=n→t<k→gS K (mx M n n) (mp q n) k (i:Int)=some (.go ())
 |0,i,k,hi,hk=>by
  obtain⟨k',rfl,_⟩:=aZ hk
  simp only [gS,tS,dF (show¬(i:Int)<(n:Int) by omega),bN]
 |t+1,i,k,hi,hk=>by
  obtain⟨k',rfl,_⟩:=aZ hk
  have hin:i<n:=by omega
  have g:=aG0 (l:=mp (M i) n) (z6 fun c hc=>hM i c hin hc) hB (by rw [cB];omega) (K:=K) (by rw [cB];omega)
  simp only [gS,tS,dT (show(i:Int)<(n:Int) by omega),bW,aA2 (g:=M) (w:=n) hin,oB,cB,nF (rfl:(n:Int)=(n:Int)),bN,g,Bool.not_true,mF (i:=i) (by omega)]
  exact aEa hM hB hn hK t (i+1) k' (by omega) (by omega)
theorem aEk {M:Nat→Nat→Rat} {q:Nat→Rat} {n B:Nat} (hM:Bdx n n B M) (hq:∀i,i<n→Bd B (q i)) (hB:B≤1073741824) (hn:n≤32) {K:Nat} (hK:100≤K):nZ K (mx M n n) (mp q n)=some true:=by
 have g:=aG0 (l:=mp q n) (z6 hq) hB (by rw [cB];omega) (K:=K) (by rw [cB];omega)
 have e:=aEa (q:=q) hM hB hn hK n 0 K (by omega) (by omega)
 simp only [Int.natCast_zero] at e
 simp only [nZ,tS,cB,nF (rfl:(n:Int)=(n:Int)),bN,dF (show¬(32:Int)<(n:Int) by omega),g,oB,Bool.not_true,e,oG]
theorem aDj {M:Nat→Nat→Rat} {q:Nat→Rat} {n B:Nat} (hM:Bdx n n B M) (hB:B≤1073741824) (hn:n≤32) {K:Nat} (hK:100≤K):∀(t i k:Nat),i+t=n→t<k→kX K (mx M n n) (mp q n) k (i:Int)=some (.go ())
 |0,i,k,hi,hk=>by
  obtain⟨k',rfl,_⟩:=aZ hk
  simp only [kX,tS,dF (show¬(i:Int)<(n:Int) by omega),bN]
 |t+1,i,k,hi,hk=>by
  obtain⟨k',rfl,_⟩:=aZ hk
  have hin:i<n:=by omega
  have g:=aEH (l:=mp (M i) n) (z6 fun c hc=>hM i c hin hc) hB (by rw [cB];omega) (K:=K) (by rw [cB];omega)
  simp only [kX,tS,dT (show(i:Int)<(n:Int) by omega),bW,aA2 (g:=M) (w:=n) hin,oB,cB,nF (rfl:(n:Int)=(n:Int)),bN,g,Bool.not_true,mF (i:=i) (by omega)]
  exact aDj hM hB hn hK t (i+1) k' (by omega) (by omega)
theorem aDD {M:Nat→Nat→Rat} {q:Nat→Rat} {n B:Nat} (hM:Bdx n n B M) (hq:∀i,i<n→Bd B (q i)) (hB:B≤1073741824) (hn:n≤32) {K:Nat} (hK:100≤K):sQ K (mx M n n) (mp q n)=some true:=by
 have g:=aEH (l:=mp q n) (z6 hq) hB (by rw [cB];omega) (K:=K) (by rw [cB];omega)
 have e:=aDj (q:=q) hM hB hn hK n 0 K (by omega) (by omega)
 simp only [Int.natCast_zero] at e
 simp only [sQ,tS,cB,nF (rfl:(n:Int)=(n:Int)),bN,dF (show¬(32:Int)<(n:Int) by omega),g,oB,Bool.not_true,e,uB]
def ng (q:Nat→Rat):Nat→Nat→Bool
 |0,_=>false
 |t+1,i=>bif decide ((q i).num.sign<0) then true else ng q t (i+1)
theorem aMi {q:Nat→Rat} {n B:Nat} (hq:∀i,i<n→Bd B (q i)) (hB:B≤1073741824) (hn:n≤1000) (K:Nat):∀(t i k:Nat),i+t=n→t<k→fN K (mp q n) k (i:Int)=some (bif ng q t i then .ret true else .go ())
 |0,i,k,hi,hk=>by
  obtain⟨k',rfl,_⟩:=aZ hk
  simp only [fN,cB,dF (show¬(i:Int)<(n:Int) by omega),bN,ng]
 |t+1,i,k,hi,hk=>by
  obtain⟨k',rfl,_⟩:=aZ hk
  have hin:i<n:=by omega
  simp only [fN,cB,dT (show(i:Int)<(n:Int) by omega),bW,dW (f:=q) hin,oB,mY (hq i hin) hB,ng]
  by_cases h:(q i).num.sign<0
  ·simp only [dT h,bW]
  ·simp only [dF h,bN,mF (i:=i) (by omega),oB]
   exact aMi hq hB hn K t (i+1) k' (by omega) (by omega)
theorem aH0 {q:Nat→Rat} {n B:Nat} (hq:∀i,i<n→Bd B (q i)) (hB:B≤1073741824) (hn:n≤1000) (K:Nat):∀(t i k:Nat),i+t=n→t<k→jA K (mp q n) k (i:Int)=some (bif ng q t i then .ret true else .go ())
 |0,i,k,hi,hk=>by
  obtain⟨k',rfl,_⟩:=aZ hk
  simp only [jA,cB,dF (show¬(i:Int)<(n:Int) by omega),bN,ng]
 |t+1,i,k,hi,hk=>by
  obtain⟨k',rfl,_⟩:=aZ hk
  have hin:i<n:=by omega
  simp only [jA,cB,dT (show(i:Int)<(n:Int) by omega),bW,dW (f:=q) hin,oB,mY (hq i hin) hB,ng]
  by_cases h:(q i).num.sign<0
  ·simp only [dT h,bW]
  ·simp only [dF h,bN,mF (i:=i) (by omega),oB]
   exact aH0 hq hB hn K t (i+1) k' (by omega) (by omega)
theorem aO0 {q:Nat→Rat} {n B:Nat} (hq:∀i,i<n→Bd B (q i)) (hB:B≤1073741824) (hn:n≤1000) {K:Nat} (hK:n<K):lV K (mp q n)=some (ng q n 0)∧qQ K (mp q n)=some (ng q n 0):=by
 have e1:=aMi hq hB hn K n 0 K (by omega) hK
 have e2:=aH0 hq hB hn K n 0 K (by omega) hK
 simp only [Int.natCast_zero] at e1 e2
 constructor
 ·simp only [lV,e1,oB,mK]
  cases ng q n 0<;>rfl
 ·simp only [qQ,e2,oB,sK]
  cases ng q n 0<;>rfl
def rw1 (M:Nat→Nat→Rat) (n i k c:Nat):Rat:=if n≤c∧c<n+k then -(M i (c-n)) else jI z0 i 1 c
theorem aGU {M:Nat→Nat→Rat} {n i k:Nat} (hi:i<n):mp (jI (rw1 M n i k) (n+k) (-(M i k))) (2*n+2)=mp (rw1 M n i (k+1)) (2*n+2):=bV fun c _=>by
 by_cases e:c=n+k
 ·subst e;rw [bD];unfold rw1;rw [if_pos ⟨by omega,by omega⟩,Nat.add_sub_cancel_left]
 ·rw [cZ e];unfold rw1
  by_cases h:n≤c∧c<n+k
  ·rw [if_pos h,if_pos ⟨h.1,by omega⟩]
  ·rw [if_neg h,if_neg (by omega)]
theorem aIq {M:Nat→Nat→Rat} {q:Nat→Rat} {n i:Nat} (hi:i<n):mp (jI (jI (rw1 M n i n) (2*n) (-1)) (2*n+1) (q i)) (2*n+2)=mp (wG M q n i) (2*n+2):=bV fun c hc=>by
 unfold wG
 by_cases e1:c=2*n+1
 ·subst e1;rw [bD,if_neg (by omega),if_neg (by omega),if_neg (by omega)]
 ·rw [cZ e1]
  by_cases e2:c=2*n
  ·subst e2;rw [bD,if_neg (by omega),if_neg (by omega),if_pos rfl]
  ·rw [cZ e2]
   unfold rw1
   by_cases h:c<n
   ·rw [if_neg (by omega),if_pos h]
    by_cases e3:c=i
    ·subst e3;rw [bD,if_pos rfl]
    ·rw [cZ e3,if_neg (fun e=>e3 e.symm)];rfl
   ·rw [if_pos ⟨by omega,by omega⟩,if_neg h,if_pos (by omega)]
theorem aIz {M:Nat→Nat→Rat} {q:Nat→Rat} {n i B:Nat} (hM:Bdx n n B M) (hB:B≤1073741824) (hi:i<n) (hn:n≤1000) (K:Nat):∀(t k fu:Nat),k+t=n→t<fu→eN K (mx M n n) (mp q n) (i:Int) fu (mp (rw1 M n i k) (2*n+2)) (k:Int)=some (mp (rw1 M n i n) (2*n+2))
 |0,k,fu,hk,hf=>by
  obtain⟨fu',rfl,_⟩:=aZ hf
  have e:k=n:=by omega
  subst e
  simp only [eN,cB,dF (show¬(k:Int)<(k:Int) by omega),bN]
 |t+1,k,fu,hk,hf=>by
  obtain⟨fu',rfl,_⟩:=aZ hf
  have hkn:k<n:=by omega
  have c1:aP ((n:Int)+(k:Int))=some ((n+k:Nat):Int):=by rw [kD (by omega)];rfl
  simp only [eN,cB,dT (show(k:Int)<(n:Int) by omega),bW,c1,oB,aA2 (g:=M) (w:=n) hi,dW (f:=M i) hkn,aBL (hM i k hi hkn) hB,dW (f:=rw1 M n i k) (n:=2*n+2) (i:=n+k) (by omega),rF (f:=rw1 M n i k) (n:=2*n+2) (i:=n+k) (by omega),aGU hi,mF (i:=k) (by omega)]
  exact aIz hM hB hi hn K t (k+1) fu' (by omega) (by omega)
theorem aGs {M:Nat→Nat→Rat} {q:Nat→Rat} {n i B:Nat} (hM:Bdx n n B M) (hB:B≤1073741824) (hi:i<n) (hn:n≤1000) (K:Nat):∀(t k fu:Nat),k+t=n→t<fu→jX K (mx M n n) (mp q n) (i:Int) fu (mp (rw1 M n i k) (2*n+2)) (k:Int)=some (mp (rw1 M n i n) (2*n+2))
 |0,k,fu,hk,hf=>by
  obtain⟨fu',rfl,_⟩:=aZ hf
  have e:k=n:=by omega
  subst e
  simp only [jX,cB,dF (show¬(k:Int)<(k:Int) by omega),bN]
 |t+1,k,fu,hk,hf=>by
  obtain⟨fu',rfl,_⟩:=aZ hf
  have hkn:k<n:=by omega
  have c1:aP ((n:Int)+(k:Int))=some ((n+k:Nat):Int):=by rw [kD (by omega)];rfl
  simp only [jX,cB,dT (show(k:Int)<(n:Int) by omega),bW,c1,oB,aA2 (g:=M) (w:=n) hi,dW (f:=M i) hkn,aBL (hM i k hi hkn) hB,dW (f:=rw1 M n i k) (n:=2*n+2) (i:=n+k) (by omega),rF (f:=rw1 M n i k) (n:=2*n+2) (i:=n+k) (by omega),aGU hi,mF (i:=k) (by omega)]
  exact aGs hM hB hi hn K t (k+1) fu' (by omega) (by omega)
theorem aQS:zC (-1) 1=some (-1):=by
 rw [aHl (by omega) (by omega)]
 exact congrArg some (by decide+kernel)
theorem aLz {M:Nat→Nat→Rat} {q:Nat→Rat} {n B:Nat} (hM:Bdx n n B M) (hB:B≤1073741824) (hn:n≤1000) {K:Nat} (hK:n<K):∀(t i fu:Nat),i+t=n→t<fu→d7 K (mx M n n) (mp q n) fu (mp (fun j=>((j:Nat):Int)) i) (mp (fun j=>j) i) (mx (wG M q n) i (2*n+2)) (i:Int)=some (mp (fun j=>((j:Nat):Int)) n,mp (fun j=>j) n,mx (wG M q n) n (2*n+2))
 |0,i,fu,hi,hf=>by
  obtain⟨fu',rfl,_⟩:=aZ hf
  have e:i=n:=by omega
  subst e
  simp only [d7,cB,dF (show¬(i:Int)<(i:Int) by omega),bN]
 |t+1,i,fu,hi,hf=>by
  obtain⟨fu',rfl,_⟩:=aZ hf
  have hin:i<n:=by omega
  have c1:aP (2*(n:Int))=some ((2*n:Nat):Int):=by rw [kD (by omega)];rfl
  have c2:aP (((2*n:Nat):Int)+2)=some ((2*n+2:Nat):Int):=by rw [kD (by omega)];rfl
  have c3:aP (((2*n:Nat):Int)+1)=some ((2*n+1:Nat):Int):=by rw [kD (by omega)];rfl
  have e116:=aIz (q:=q) hM hB hin hn K n 0 K (by omega) hK
  have e0:mp (rw1 M n i 0) (2*n+2)=mp (jI z0 i 1) (2*n+2):=bV fun c _=>if_neg (by omega)
  rw [e0] at e116
  simp only [Int.natCast_zero] at e116
  have a1:qV (mp (fun j=>j) i) [i]=some (mp (fun j=>j) (i+1)):=apM (g:=fun j=>j) (by omega)
  have a2:qV (mp (fun j=>((j:Nat):Int)) i) [(i:Int)]=some (mp (fun j=>((j:Nat):Int)) (i+1)):=apM (g:=fun j=>((j:Nat):Int)) (by omega)
  have a3:mx (wG M q n) i (2*n+2)++[mp (wG M q n i) (2*n+2)]=mx (wG M q n) (i+1) (2*n+2):=(aCA (fun i=>mp (wG M q n i) (2*n+2)) i).symm
  simp only [d7,cB,dT (show(i:Int)<(n:Int) by omega),bW,c1,c2,aAx (z:=(0:Rat)) (n:=2*n+2) (by omega),aHa,oB,dW (f:=fun _=>(0:Rat)) (n:=2*n+2) (i:=i) (by omega),rF (f:=fun _=>(0:Rat)) (n:=2*n+2) (i:=i) (by omega),show jI (fun _=>(0:Rat)) i 1=jI z0 i 1 from rfl,e116,k5,aQS,dW (f:=rw1 M n i n) (n:=2*n+2) (i:=2*n) (by omega),rF (f:=rw1 M n i n) (n:=2*n+2) (i:=2*n) (by omega),c3,dW (f:=q) hin,dW (f:=jI (rw1 M n i n) (2*n) (-1)) (n:=2*n+2) (i:=2*n+1) (by omega),rF (f:=jI (rw1 M n i n) (2*n) (-1)) (n:=2*n+2) (i:=2*n+1) (by omega),aIq hin,tS,a1,a2,a3,mF (i:=i) (by omega)]
  exact aLz hM hB hn hK t (i+1) fu' (by omega) (by omega)
theorem aIL {M:Nat→Nat→Rat} {q:Nat→Rat} {n B:Nat} (hM:Bdx n n B M) (hB:B≤1073741824) (hn:n≤1000) {K:Nat} (hK:n<K):∀(t i fu:Nat),i+t=n→t<fu→kI K (mx M n n) (mp q n) 1 fu (mp (fun j=>((j:Nat):Int)) i) (mx (wG M q n) i (2*n+2)) (i:Int)=some (mp (fun j=>((j:Nat):Int)) n,mx (wG M q n) n (2*n+2))
 |0,i,fu,hi,hf=>by
  obtain⟨fu',rfl,_⟩:=aZ hf
  have e:i=n:=by omega
  subst e
  simp only [kI,cB,dF (show¬(i:Int)<(i:Int) by omega),bN]
 |t+1,i,fu,hi,hf=>by
  obtain⟨fu',rfl,_⟩:=aZ hf
  have hin:i<n:=by omega
  have c1:aP (2*(n:Int))=some ((2*n:Nat):Int):=by rw [kD (by omega)];rfl
  have c2:aP (((2*n:Nat):Int)+2)=some ((2*n+2:Nat):Int):=by rw [kD (by omega)];rfl
  have c3:aP (((2*n:Nat):Int)+1)=some ((2*n+1:Nat):Int):=by rw [kD (by omega)];rfl
  have e318:=aGs (q:=q) hM hB hin hn K n 0 K (by omega) hK
  have e0:mp (rw1 M n i 0) (2*n+2)=mp (jI z0 i 1) (2*n+2):=bV fun c _=>if_neg (by omega)
  rw [e0] at e318
  simp only [Int.natCast_zero] at e318
  have a2:qV (mp (fun j=>((j:Nat):Int)) i) [(i:Int)]=some (mp (fun j=>((j:Nat):Int)) (i+1)):=apM (g:=fun j=>((j:Nat):Int)) (by omega)
  have a3:qV (mx (wG M q n) i (2*n+2)) [mp (wG M q n i) (2*n+2)]=some (mx (wG M q n) (i+1) (2*n+2)):=apM (g:=fun i=>mp (wG M q n i) (2*n+2)) (by omega)
  simp only [kI,cB,dT (show(i:Int)<(n:Int) by omega),bW,c1,c2,aAx (z:=(0:Rat)) (n:=2*n+2) (by omega),oB,dW (f:=fun _=>(0:Rat)) (n:=2*n+2) (i:=i) (by omega),rF (f:=fun _=>(0:Rat)) (n:=2*n+2) (i:=i) (by omega),show jI (fun _=>(0:Rat)) i 1=jI z0 i 1 from rfl,e318,sY,aQS,dW (f:=rw1 M n i n) (n:=2*n+2) (i:=2*n) (by omega),rF (f:=rw1 M n i n) (n:=2*n+2) (i:=2*n) (by omega),c3,dW (f:=q) hin,dW (f:=jI (rw1 M n i n) (2*n) (-1)) (n:=2*n+2) (i:=2*n+1) (by omega),rF (f:=jI (rw1 M n i n) (2*n) (-1)) (n:=2*n+2) (i:=2*n+1) (by omega),aIq hin,a2,a3,mF (i:=i) (by omega)]
  exact aIL hM hB hn hK t (i+1) fu' (by omega) (by omega)
end Go.Proofs.YtcjdedkdoagifaaGreat
set_option linter.unusedVariables false
namespace Go.Proofs.YtcjdedkdoagifaaGreat
theorem aI0 {T:Nat→Nat→Rat} {n i:Nat} {c:Rat}:∀t j,lx T n i c i c t j=false
 |0,_=>rfl
 |t+1,j=>by unfold lx;rw [decide_eq_true (rfl:T i (sV n j)/c=T i (sV n j)/c),bW];exact aI0 t (j+1)
def y5 (T:Nat→Nat→Rat) (n:Nat):Nat→Nat→Nat→Nat
 |0,_,r=>r
 |t+1,i,r=>bif les T n i 1 r 1 then y5 T n t (i+1) i else y5 T n t (i+1) r
theorem aBf {T:Nat→Nat→Rat} {n:Nat}:∀t i r,r<n→i+t≤n→y5 T n t i r<n
 |0,i,r,hr,_=>hr
 |t+1,i,r,hr,h=>by
  unfold y5
  cases les T n i 1 r 1
  ·exact aBf t (i+1) r hr (by omega)
  ·exact aBf t (i+1) i (by omega) (by omega)
theorem aK1 {n B:Nat} {rs:List (List Rat)} {od:Nat→Nat} {T:Nat→Nat→Rat} {bs:List Int} (h:yX n (2*n+2) rs od T) (hT:Bdx n (2*n+2) B T) (hB:B≤200000000) (hn:n≤1000) {K:Nat} (hK:2000≤K):∀(t i fu r:Nat),i+t=n→t<fu→r<n→fH K ((n:Int),mp od n,bs,rs) 1 fu (r:Int) (i:Int)=some ((y5 T n t i r:Nat):Int)
 |0,i,fu,r,hi,hf,hr=>by
  obtain⟨fu',rfl,_⟩:=aZ hf
  simp only [fH,dF (show¬(i:Int)<(n:Int) by omega),bN,y5]
 |t+1,i,fu,r,hi,hf,hr=>by
  obtain⟨fu',rfl,_⟩:=aZ hf
  have hin:i<n:=by omega
  simp only [fH,dT (show(i:Int)<(n:Int) by omega),bW,aGw (a6:=bs) h hT hin hr aAg aAg (show B+8≤500000000 by omega) hn hK,oB,mF (i:=i) (by omega),y5]
  cases les T n i 1 r 1
  ·simp only [bN];exact aK1 h hT hB hn hK t (i+1) fu' r (by omega) (by omega) hr
  ·simp only [bW];exact aK1 h hT hB hn hK t (i+1) fu' i (by omega) (by omega) hin
theorem aKU {n B:Nat} {T:Nat→Nat→Rat} {a1:List Rat} (h1:a1.length=n) (hT:Bdx n (2*n+2) B T) (hB:B≤200000000) (hn:n≤1000) {K:Nat} (hK:2000≤K):∀(t i fu r:Nat),i+t=n→t<fu→r<n→gZ K a1 1 (mx T n (2*n+2)) fu (r:Int) (i:Int)=some ((y5 T n t i r:Nat):Int)
 |0,i,fu,r,hi,hf,hr=>by
  obtain⟨fu',rfl,_⟩:=aZ hf
  simp only [gZ,h1,dF (show¬(i:Int)<(n:Int) by omega),bN,y5]
 |t+1,i,fu,r,hi,hf,hr=>by
  obtain⟨fu',rfl,_⟩:=aZ hf
  have hin:i<n:=by omega
  simp only [gZ,h1,dT (show(i:Int)<(n:Int) by omega),bW,aA2 (g:=T) (w:=2*n+2) hin,aA2 (g:=T) (w:=2*n+2) hr,oB,aFU hT hin aAg (by omega) (by omega) hn hK,aFU hT hr aAg (by omega) (by omega) hn hK,aEf hT hin hr aAg aAg (show B+8≤500000000 by omega) hn hK,mF (i:=i) (by omega),y5]
  cases les T n i 1 r 1
  ·simp only [bN];exact aKU h1 hT hB hn hK t (i+1) fu' r (by omega) (by omega) hr
  ·simp only [bW];exact aKU h1 hT hB hn hK t (i+1) fu' i (by omega) (by omega) hin
theorem aFp {q:Nat→Rat} {n:Nat} (h:ng q n 0=true):0<n:=by
 cases n with
 |zero=>exact absurd (show false=true from h) (by decide)
 |succ m=>exact Nat.succ_pos m
def wM (M:Nat→Nat→Rat) (q:Nat→Rat) (n most:Nat):aM×Int:=
 bif ng q n 0 then lem n most (most+1) (wG M q n) (fun j=>j) (y5 (wG M q n) n n 0 0) (2*n) 0 else(⟨mp z0 n,mp q n,0⟩,0)
theorem aHH {M:Nat→Nat→Rat} {q:Nat→Rat} {n r:Nat} (hr:r<n):LI n (wG M q n) (wG M q n) (fun j=>j) r (2*n):=by
 refine⟨aKC,hr,Nat.le_refl _,?_,fun j hj=>by omega,fun _=>by omega⟩
 unfold wG
 rw [if_neg (by omega),if_neg (by omega),if_pos rfl];decide
theorem aFO {T:Nat→Nat→Rat} {n w:Nat}:yX n w (mx T n w) (fun j=>j) T:=
 ⟨fun i hi=>by rw [tS];exact hi,fun i j _ _ e=>e,fun i hi=>by unfold mx;rw [List.getD_eq_getElem?_getD,z5 hi];rfl⟩
theorem aKj {M:Nat→Nat→Rat} {q:Nat→Rat} {n:Nat}:∀i,i≤n→swv (wG M q n) (fun j=>j) n i=(fun j=>if j<i then q j else 0)∧szv (wG M q n) (fun j=>j) n i=z0
 |0,_=>⟨funext fun j=>by show(0:Rat)=_;rw [if_neg (show¬j<0 by omega)],rfl⟩
 |i+1,h=>by
  obtain⟨e1,e2⟩:=aKj (M:=M) (q:=q) (n:=n) i (by omega)
  have e3:wG M q n i (2*n+1)=q i:=by unfold wG;rw [if_neg (show¬2*n+1<n by omega),if_neg (show¬2*n+1<2*n by omega),if_neg (show¬2*n+1=2*n by omega)]
  unfold swv szv
  rw [if_pos (show i<n by omega),if_pos (show i<n by omega),e1,e2,e3]
  refine⟨funext fun j=>?_,rfl⟩
  by_cases e:j=i
  ·subst e;rw [bD,if_pos (by omega)]
  ·rw [cZ e]
   by_cases e4:j<i
   ·rw [if_pos e4,if_pos (by omega)]
   ·rw [if_neg e4,if_neg (by omega)]
theorem aJV {M:Nat→Nat→Rat} {q:Nat→Rat} {n B most:Nat} (hM:Bdx n n B M) (hq:∀i,i<n→Bd B (q i)) (hZ:Sm n B (wG M q n)) (hB:B≤200000000) (hn:n≤32) (hm:most≤100000) {K:Nat} (hK:5000≤K) (hK2:most<K):
  l9 K (mx M n n) (mp q n) (most:Int)=some (wM M q n most)∧pL K (mx M n n) (mp q n) (most:Int)=some (wM M q n most):=by
 have hng:=aO0 hq (by omega) (show n≤1000 by omega) (show n<K by omega)
 have hT:=hZ _ _ aKC
 have s1:=aLz (q:=q) hM (by omega) (show n≤1000 by omega) (show n<K by omega) n 0 K (by omega) (by omega)
 have s2:=aIL (q:=q) hM (by omega) (show n≤1000 by omega) (show n<K by omega) n 0 K (by omega) (by omega)
 have z1:mp (fun j=>((j:Nat):Int)) 0=[]:=rfl
 have z2:mp (fun j:Nat=>j) 0=[]:=rfl
 have z3:mx (wG M q n) 0 (2*n+2)=[]:=rfl
 simp only [Int.natCast_zero,z1,z2,z3] at s1 s2
 have st:lY K (mx M n n) (mp q n)=some ((n:Int),mp (fun j=>j) n,mp (fun j=>((j:Nat):Int)) n,mx (wG M q n) n (2*n+2)):=by
  simp only [lY,s1,oB,lO,cB]
 have c1:aP (2*(n:Int))=some ((2*n:Nat):Int):=by rw [kD (by omega)];rfl
 by_cases hneg:ng q n 0=true
 ·have hn0:=aFp hneg
  have hr:=aBf (T:=wG M q n) n 0 0 hn0 (by omega)
  have l1:=aK1 (bs:=mp (fun j=>((j:Nat):Int)) n) (aFO (T:=wG M q n)) hT hB (show n≤1000 by omega) (show 2000≤K by omega) n 0 K 0 (by omega) (by omega) hn0
  have l2:=aKU (a1:=mp q n) (cB _ _) hT hB (show n≤1000 by omega) (show 2000≤K by omega) (n-1) 1 K 0 (by omega) (by omega) hn0
  have e0:y5 (wG M q n) n (n-1) 1 0=y5 (wG M q n) n n 0 0:=by
   obtain⟨m,rfl⟩:∃m,n=m+1:=⟨n-1,by omega⟩
   have e:les (wG M q (m+1)) (m+1) 0 1 0 1=false:=aI0 _ _
   have e2:y5 (wG M q (m+1)) (m+1) (m+1) 0 0=bif les (wG M q (m+1)) (m+1) 0 1 0 1 then y5 (wG M q (m+1)) (m+1) m 1 0 else y5 (wG M q (m+1)) (m+1) m 1 0:=rfl
   rw [e2,e,bN];rfl
  rw [e0] at l2
  simp only [Int.natCast_zero,Int.natCast_one] at l1 l2
  have r1:=aQu (v6:=((n:Int),mp (fun j=>j) n,mp (fun j=>((j:Nat):Int)) n,mx (wG M q n) n (2*n+2))) rfl hZ hB (show n≤1000 by omega) hm hK (most+1) 0 K _ _ _ _ _ _ (by omega) (by omega) (by omega) aFO (aHH (M:=M) (q:=q) hr)
  have r2:=aQZ (a1:=mp q n) (cB _ _) hZ hB (show n≤1000 by omega) hm hK (most+1) 0 K _ _ _ _ (by omega) (by omega) (by omega) (aHH (M:=M) (q:=q) hr)
  simp only [Int.natCast_zero] at r1 r2
  constructor
  ·simp only [l9,aEk hM hq (show B≤1073741824 by omega) hn (show 100≤K by omega),oB,Bool.not_true,bN,dF (show¬(most:Int)<0 by omega),st,hng.1,hneg,aHa,l1,nQ,c1,r1,wM,bW]
  ·simp only [pL,aDD hM hq (show B≤1073741824 by omega) hn (show 100≤K by omega),oB,Bool.not_true,bN,dF (show¬(most:Int)<0 by omega),hng.2,hneg,aHa,s2,t0,l2,tY,cB,c1,r2,wM,bW]
 ·have hneg':ng q n 0=false:=by cases h:ng q n 0 with|true=>exact absurd h hneg|false=>rfl
  obtain⟨e1,e2⟩:=aKj (M:=M) (q:=q) (n:=n) n (Nat.le_refl _)
  have ps:=aJm (b:=fun j=>j) (aFO (T:=wG M q n) (n:=n) (w:=2*n+2)) (show n≤1000 by omega) (show 2000≤K by omega)
  rw [e1,e2,bV (f:=fun j=>if j<n then q j else 0) (g:=q) fun i hi=>if_pos hi] at ps
  constructor
  ·simp only [l9,aEk hM hq (show B≤1073741824 by omega) hn (show 100≤K by omega),oB,Bool.not_true,bN,dF (show¬(most:Int)<0 by omega),st,hng.1,hneg',Bool.not_false,bW,ps,wM]
  ·simp only [pL,aDD hM hq (show B≤1073741824 by omega) hn (show 100≤K by omega),oB,Bool.not_true,bN,dF (show¬(most:Int)<0 by omega),hng.2,hneg',Bool.not_false,bW,cB,aAx (z:=(0:Rat)) (n:=n) (by omega),wM]
   rfl
end Go.Proofs.YtcjdedkdoagifaaGreat
set_option linter.unusedVariables false
namespace Go.Proofs.YtcjdedkdoagifaaGreat
/-- The first numbers, then zeros. -/
def tz (z:Nat→Rat) (k:Nat):Nat→Rat:=fun j=>if j<k then z j else 0
theorem aC8 {z:Nat→Rat} {k j:Nat} (h:j≠k):tz z (k+1) j=tz z k j:=by
 unfold tz
 by_cases e:j<k
 ·rw [if_pos e,if_pos (by omega)]
 ·rw [if_neg e,if_neg (by omega)]
theorem aL4 {z:Nat→Rat} {k j:Nat} (h:j=k):tz z (k+1) j=z k:=by
 subst h;unfold tz;rw [if_pos (Nat.lt_succ_self _)]
theorem aDR {z:Nat→Rat} {k j:Nat} (h:k≤j):tz z k j=0:=by
 unfold tz;rw [if_neg (by omega)]
theorem aPW {z:Nat→Rat} {k C:Nat} {n:Nat} (hC:1≤C) (h:∀j,j<n→Bd C (z j)):∀j,j<n→Bd C (tz z k j):=fun j hj=>by
 unfold tz;split
 ·exact h j hj
 ·exact Bd.zero.mono hC
theorem aCo {v:List Rat} {l:List aA} {z:Nat→Rat} {k r r' q:Nat} (hq:vq v l r q) (hk:k=off v l r+q) (ne:r'≠r):pz v l (tz z (k+1)) r'=pz v l (tz z k) r':=by
 have e:∀q',vq v l r' q'→tz z (k+1) (off v l r'+q')=tz z k (off v l r'+q'):=fun q' h'=>aC8 fun e=>ne (aCC h' hq (by omega)).1
 have e0:tz z (k+1) (off v l r')=tz z k (off v l r'):=e 0 (.inl rfl)
 unfold pz
 rw [e0]
 by_cases ht:(lH l r').t.length=0
 ·rw [if_pos ht,if_pos ht]
 ·rw [if_neg ht,if_neg ht]
  by_cases hs:(rt (lH l r').t v).num.sign=0
  ·have hst:zK v (lH l r')=true:=by
    unfold zK;rw [decide_eq_true (show 0<(lH l r').t.length by omega),decide_eq_true hs];rfl
   rw [if_neg (fun h=>h hs),if_neg (fun h=>h hs),e 1 (.inr ⟨hst,by omega⟩),e 2 (.inr ⟨hst,by omega⟩)]
  ·rw [if_pos hs,if_pos hs]
theorem aPq {v:List Rat} {l:List aA} {z:Nat→Rat} {k r:Nat} (hk:k=off v l r):pz v l (tz z (k+1)) r=⟨z k,if(lH l r).t.length=0 then(pz v l (tz z k) r).f else(((-(rt (lH l r).t v).num.sign:Int):Rat)/((1:Int):Rat))*((lH l r).mu*z k)⟩:=by
 have e0:tz z (k+1) (off v l r)=z k:=aL4 hk.symm
 have e1:tz z (k+1) (off v l r+1)=0:=aDR (by omega)
 have e2:tz z (k+1) (off v l r+2)=0:=aDR (by omega)
 unfold pz
 rw [e0,e1,e2]
 by_cases ht:(lH l r).t.length=0
 ·simp only [if_pos ht]
 ·simp only [if_neg ht]
  by_cases hs:(rt (lH l r).t v).num.sign=0
  ·have z:((-(0:Int):Int):Rat)/((1:Int):Rat)=0:=by decide+kernel
   rw [if_neg (fun h=>h hs),hs,z,Rat.zero_mul,Rat.sub_self]
  ·rw [if_pos hs]
theorem aEz {v:List Rat} {l:List aA} {z:Nat→Rat} {r:Nat} (h:zK v (lH l r)=true):pz v l z r=⟨z (off v l r),z (off v l r+1)-z (off v l r+2)⟩:=by
 obtain⟨s1,s2⟩:=aHS h
 unfold pz
 rw [if_neg s1,if_neg (fun h=>h s2)]
theorem aPF {v:List Rat} {l:List aA} {z:Nat→Rat} {k r:Nat} (h:zK v (lH l r)=true) (hk:k=off v l r+1):pz v l (tz z (k+1)) r=⟨(pz v l (tz z k) r).n,(pz v l (tz z k) r).f+z k⟩:=by
 rw [aEz h,aEz h,aC8 (show off v l r≠k by omega),aL4 (show off v l r+1=k by omega),aDR (show k+1≤off v l r+2 by omega),aDR (show k≤off v l r+1 by omega),aDR (show k≤off v l r+2 by omega)]
 simp [Rat.sub_eq_add_neg,Rat.add_zero,Rat.neg_zero,Rat.zero_add]
theorem aPl {v:List Rat} {l:List aA} {z:Nat→Rat} {k r:Nat} (h:zK v (lH l r)=true) (hk:k=off v l r+2):pz v l (tz z (k+1)) r=⟨(pz v l (tz z k) r).n,(pz v l (tz z k) r).f-z k⟩:=by
 rw [aEz h,aEz h,aC8 (show off v l r≠k by omega),aC8 (show off v l r+1≠k by omega),aL4 (show off v l r+2=k by omega),aDR (show k≤off v l r+2 by omega)]
 simp [Rat.sub_eq_add_neg,Rat.add_zero,Rat.neg_zero]
theorem aPj {v:List Rat} {l:List aA} {z:Nat→Rat} {k r:Nat} (h:zK v (lH l r)=true) (hk:k=off v l r+3):pz v l (tz z (k+1)) r=pz v l (tz z k) r:=by
 rw [aEz h,aEz h,aC8 (show off v l r≠k by omega),aC8 (show off v l r+1≠k by omega),aC8 (show off v l r+2≠k by omega)]
theorem aFc {v:List Rat} {l:List aA} {z:Nat→Rat} {k r q:Nat} {P:Nat→aF} {x:aF} (hq:vq v l r q) (hk:k=off v l r+q) (hx:x=pz v l (tz z (k+1)) r) (hP:∀i,i≠r→P i=pz v l (tz z k) i):mp (jI P r x) l.length=mp (pz v l (tz z (k+1))) l.length:=bV fun i _=>by
 by_cases e:i=r
 ·subst e;rw [bD,hx]
 ·rw [cZ e,aCo hq hk e];exact hP i e
theorem aLd {d:List aG} {f v:List Rat} {l:List aA} {z:Nat→Rat} {C:Nat} {v10:aM×Int} (hv:u7 64 v) (hl:RsC l) (hll:l.length≤100) (hz:∀j,j<off v l l.length→Bd C (z j)) (hC1:1≤C) (hC:C≤100000000) (h10:v10.1.z=mp z (off v l l.length)) {K:Nat} (hK:5000≤K):∀(t k fu:Nat),k+t=off v l l.length→t<fu→cX K d f v l ((w8 v l l.length).map pu) v10 fu (mp (pz v l (tz z k)) l.length) (k:Int)=some (mp (pz v l (tz z (off v l l.length))) l.length)
 |0,k,fu,hi,hk=>by
  obtain⟨k',rfl,_⟩:=aZ hk
  have e:k=off v l l.length:=by omega
  rw [e]
  simp only [cX,sI,dF (show¬(off v l l.length:Int)<(off v l l.length:Int) by omega),bN]
 |t+1,k,fu,hi,hk=>by
  obtain⟨k',rfl,_⟩:=aZ hk
  have hkl:k<off v l l.length:=by omega
  have h4:=qR (v:=v) (l:=l) l.length
  obtain⟨r,q,h1,h2,h3⟩:=sP l.length k hkl
  have hq3:=vq3 h2
  have ih:=aLd (d:=d) (f:=f) hv hl hll hz hC1 hC h10 hK t (k+1) k' (by omega) (by omega)
  have hb:=aET (aPW (k:=k) hC1 hz) hl r h1
  have hc:=hz k hkl
  have rU:=rdU (v:=v) (l:=l) h2 h1
  rw [←h3] at rU
  have st:∀x,nL (mp (pz v l (tz z k)) l.length) (r:Int) x=some (mp (jI (pz v l (tz z k)) r x) l.length):=fun x=>rF h1
  by_cases q0:q=0
  ·subst q0
   have hk0:k=off v l r:=h3
   have st2:∀x y,nL (mp (jI (pz v l (tz z k)) r x) l.length) (r:Int) y=some (mp (jI (jI (pz v l (tz z k)) r x) r y) l.length):=fun x y=>rF h1
   have rd2:∀x,bK (mp (jI (pz v l (tz z k)) r x) l.length) (r:Int)=some x:=fun x=>by rw [dW h1,bD]
   have p0':=aPq (z:=z) hk0
   by_cases ht:(lH l r).t.length=0
   ·rw [if_pos ht] at p0'
    have cF:=aFc (P:=pz v l (tz z k)) h2 h3 p0'.symm (fun i _=>rfl)
    simp only [cX,sI,dT (show(k:Int)<(off v l l.length:Int) by omega),bW,rU,oB,dW h1,Int.natCast_zero,qT (show(0:Int)=0 from rfl),h10,dW (f:=z) hkl,st,aBo h1,dF (show¬(0:Int)<((lH l r).t.length:Int) by omega),bN,mF (i:=k) (by omega),cF]
    exact ih
   ·rw [if_neg ht] at p0'
    have cF:=aFc (P:=jI (pz v l (tz z k)) r ⟨z k,(pz v l (tz z k) r).f⟩) h2 h3 p0'.symm (fun i hi=>cZ hi)
    simp only [cX,sI,dT (show(k:Int)<(off v l l.length:Int) by omega),bW,rU,oB,dW h1,Int.natCast_zero,qT (show(0:Int)=0 from rfl),h10,dW (f:=z) hkl,st,aBo h1,dT (show(0:Int)<((lH l r).t.length:Int) by omega),bD,aC4 hv (hl _ (pN h1)) hc (by omega) (show 13≤K by omega),st2,mF (i:=k) (by omega),cF]
    exact ih
  ·have hst:zK v (lH l r)=true:=by rcases h2 with h|h;exact absurd h q0;exact h.1
   by_cases q1:q=1
   ·subst q1
    have cF:=aFc (P:=pz v l (tz z k)) h2 h3 (aPF (z:=z) hst h3).symm (fun i _=>rfl)
    simp only [cX,sI,dT (show(k:Int)<(off v l l.length:Int) by omega),bW,rU,oB,dW h1,Int.natCast_one,qF (show(1:Int)≠0 by omega),qT (show(1:Int)=1 from rfl),bN,h10,dW (f:=z) hkl,vG hb.2 hc (by omega) (by omega),st,mF (i:=k) (by omega),cF]
    exact ih
   ·by_cases q2:q=2
    ·subst q2
     have cF:=aFc (P:=pz v l (tz z k)) h2 h3 (aPl (z:=z) hst h3).symm (fun i _=>rfl)
     simp only [cX,sI,dT (show(k:Int)<(off v l l.length:Int) by omega),bW,rU,oB,dW h1,qF (show((2:Nat):Int)≠0 by omega),qF (show((2:Nat):Int)≠1 by omega),qT (show((2:Nat):Int)=2 from rfl),bN,h10,dW (f:=z) hkl,zB hb.2 hc (by omega) (by omega),st,mF (i:=k) (by omega),cF]
     exact ih
    ·have q3:q=3:=by omega
     subst q3
     have cF:mp (pz v l (tz z k)) l.length=mp (pz v l (tz z (k+1))) l.length:=bV fun i _=>by
      by_cases e:i=r
      ·subst e;exact(aPj hst h3).symm
      ·exact(aCo h2 h3 e).symm
     simp only [cX,sI,dT (show(k:Int)<(off v l l.length:Int) by omega),bW,rU,oB,dW h1,qF (show((3:Nat):Int)≠0 by omega),qF (show((3:Nat):Int)≠1 by omega),qF (show((3:Nat):Int)≠2 by omega),bN,mF (i:=k) (by omega)]
     rw [cF]
     exact ih
end Go.Proofs.YtcjdedkdoagifaaGreat
set_option linter.unusedVariables false
namespace Go.Proofs.YtcjdedkdoagifaaGreat
theorem aOW.sbd {s:aK} (hs:aOW s):SB s.dofs s.load s.v s.rows:=by
 have hn1:=hs.n1
 have hn4:=hs.n4
 have hll:=hs.ll
 have hvl:=hs.vl
 have hrl:=hs.rl
 exact⟨fun x hx=>(hs.dofs x hx).1,by omega,fun x hx=>(hs.load x hx).mono (by omega),by omega,fun x hx=>(hs.v x hx).mono (by omega),by omega,hs.mus,by omega⟩
end Go.Proofs.YtcjdedkdoagifaaGreat
set_option linter.unusedVariables false
namespace Go.Proofs.YtcjdedkdoagifaaGreat
theorem aLk {n B:Nat} {T:Nat→Nat→Rat} {b:Nat→Nat} (hT:Bdx n (2*n+2) B T) (hB:1≤B):∀i,i≤n→∀j,Bd B (szv T b n i j)
 |0,_,j=>Bd.zero.mono hB
 |i+1,h,j=>by
  have ih:=aLk (b:=b) hT hB i (by omega)
  unfold szv
  split
  ·exact ih j
  ·split
   ·by_cases e:j=b i-n
    ·subst e;rw [bD];exact hT i _ (by omega) (by omega)
    ·rw [cZ e];exact ih j
   ·exact ih j
theorem aNu {n most B:Nat} {Z:Nat→Nat→Rat} (hZ:Sm n B Z) (hB:1≤B):∀(f:Nat) (T:Nat→Nat→Rat) (b:Nat→Nat) (r c cnt:Nat),LI n Z T b r c→(lem n most f T b r c cnt).2=0→(lem n most f T b r c cnt).1.z.length=n∧u7 B (lem n most f T b r c cnt).1.z
 |0,T,b,r,c,cnt,h,h0=>absurd (show(16:Int)=0 from h0) (by decide)
 |f+1,T,b,r,c,cnt,h,h0=>by
  unfold lem at h0 ⊢
  by_cases e:cnt=most
  ·rw [if_pos e] at h0;exact absurd h0 (by decide)
  ·rw [if_neg e] at h0 ⊢
   have hcw:=h.hc
   by_cases e2:b r=2*n
   ·rw [if_pos e2]
    have ti':=h.ti.pivot h.hr (show c<2*n+2 by omega) h.hp
    exact⟨cB _ _,z6 fun j _=>aLk (hZ _ _ ti') hB n (Nat.le_refl _) j⟩
   ·rw [if_neg e2] at h0 ⊢
    cases hs:sel (wD T r c) n (if b r<n then b r+n else b r-n) n 0 none with
    |none=>rw [hs] at h0;exact absurd (show(15:Int)=0 from h0) (by decide)
    |some r'=>
     rw [hs] at h0
     exact aNu hZ hB f _ _ _ _ _ (h.next e2 hs) h0
theorem aL1 {M:Nat→Nat→Rat} {q:Nat→Rat} {n B most:Nat} (hZ:Sm n B (wG M q n)) (hB:1≤B) (h0:(wM M q n most).2=0):(wM M q n most).1.z.length=n∧u7 B (wM M q n most).1.z:=by
 unfold wM at h0 ⊢
 by_cases hneg:ng q n 0=true
 ·rw [hneg,bW] at h0 ⊢
  exact aNu hZ hB _ _ _ _ _ _ (aHH (aBf n 0 0 (aFp hneg) (by omega))) h0
 ·have hneg':ng q n 0=false:=by cases h:ng q n 0 with|true=>exact absurd h hneg|false=>rfl
  rw [hneg',bN]
  exact⟨cB _ _,z6 fun j _=>Bd.zero.mono hB⟩
theorem pw4 {D k m:Nat} (h:D≤2^k) (e:4*k+56=m):64*(2^50*(D*D*D*D))≤2^m:=by
 have e2:=Nat.mul_le_mul (Nat.mul_le_mul (Nat.mul_le_mul h h) h) h
 rw [←Nat.pow_add,←Nat.pow_add,←Nat.pow_add] at e2
 have e3:=Nat.mul_le_mul (Nat.le_refl (2^6)) (Nat.mul_le_mul (Nat.le_refl (2^50)) e2)
 rw [←Nat.pow_add,←Nat.pow_add] at e3
 rw [show m=6+(50+(k+k+k+k)) by omega]
 exact e3
theorem pw8 {D k m:Nat} (h:D≤256^k) (e:8*k=m):D≤2^m:=by
 rw [show(256:Nat)=2^8 from rfl,←Nat.pow_mul,e] at h;exact h
theorem pwn {x k m n:Nat} (h:x≤2^k) (e:k*n<m):x^n<2^m:=by
 refine Nat.lt_of_le_of_lt (Nat.pow_le_pow_left h n) ?_
 rw [←Nat.pow_mul]
 exact Nat.pow_lt_pow_right (by decide) e
theorem aQa {D n sz:Nat} (hs:sz=100000) (hD:D≤256^149) (hn:n≤20):(64*(2^50*(D*D*D*D)))^n<2^sz:=
 pwn (pw4 (pw8 hD (m:=1192) (by decide)) (m:=4824) (by decide)) (by omega)
theorem aKk {d:List aG} {f v:List Rat} {l:List aA} (h:ScB d f v l) (hm:l.length≤5) (h8:∀j,j<d.length→Bd 8 (qK f j)):Sm (off v l l.length) 100000 (wG (Mf d v l) (qf d (qK f) v l) (off v l l.length)):=fun T b hT=>by
 obtain⟨D,hD,hle⟩:=aQx (f:=qK f) h.sb.sd h.n8 h8 h.sb.sl hm
 have hrb:RsB l:=fun r hr=>(h.sb.sl r hr).1
 have h4:=qR (v:=v) (l:=l) l.length
 have hp:(((D^4:Nat)):Rat)≠0:=by
  have:=Nat.pow_pos (n:=4) (show 0<D from hD.pos)
  intro e
  have e2:D^4=0:=by exact_mod_cast e
  omega
 obtain⟨k,hk⟩:∃k,k=100000:=⟨_,rfl⟩
 rw [←hk]
 exact hT.bd hp (fun i c hi _=>aPE hD hrb hm hi) (by omega) (aQa hk hle (by omega))
def aA7 (d:List aG) (f v:List Rat) (l:List aA):List Rat×List aF×Int:=
 bif(wM (Mf d v l) (qf d (qK f) v l) (off v l l.length) 4096).2 != 0 then([],[],(wM (Mf d v l) (qf d (qK f) v l) (off v l l.length) 4096).2)
 else(mp (acc d (qK f) l (pz v l (qK (wM (Mf d v l) (qf d (qK f) v l) (off v l l.length) 4096).1.z))) d.length,mp (pz v l (qK (wM (Mf d v l) (qf d (qK f) v l) (off v l l.length) 4096).1.z)) l.length,0)
theorem aOH {x:List Rat} {n:Nat} (h:x.length=n):tz (qK x) n=qK x:=funext fun j=>by
 unfold tz
 by_cases e:j<n
 ·rw [if_pos e]
 ·rw [if_neg e];unfold qK;rw [List.getD_eq_getElem?_getD,List.getElem?_eq_none (by omega)];rfl
theorem aEe {d:List aG} {f v:List Rat} {l:List aA} (h:ScB d f v l) (hf:aAX d f v l=true) (hm:l.length≤5) (h8:∀j,j<d.length→Bd 8 (qK f j)) {K:Nat} (hK:6000≤K):mI K d f v l=some (aA7 d f v l)∧sR K d f v l=some (aA7 d f v l):=by
 have h4:=qR (v:=v) (l:=l) l.length
 have hn:=h.n8
 have hrb:RsB l:=fun r hr=>(h.sb.sl r hr).1
 have e1:=aHf h (show 5000≤K by omega)
 have e2:=aHe h hf (show 5000≤K by omega)
 have hq1:∀i,i<off v l l.length→Bd 100000 (qf d (qK f) v l i):=fun i hi=>by rw [←aFJ (n:=0)];exact h.vbd (z:=z0) (fun _=>Bd.zero) hi
 have hq:∀i,i<off v l l.length→Bd 300000 (qf d (qK f) v l i):=fun i hi=>(hq1 i hi).mono (by omega)
 have hM:Bdx (off v l l.length) (off v l l.length) 300000 (Mf d v l):=fun i c hi _=>by
  rw [←aLf (f:=qK f)]
  exact((h.vbd (z:=ek c) (fun _=>aJl) hi).sub (hq1 i hi)).mono (by omega)
 have hZ:=aKk h hm h8
 have hZ3:Sm (off v l l.length) 300000 (wG (Mf d v l) (qf d (qK f) v l) (off v l l.length)):=fun T b hT i c hi hc=>(hZ T b hT i c hi hc).mono (by omega)
 obtain⟨c1,c2⟩:=aJV (most:=4096) hM hq hZ3 (by omega) (show off v l l.length≤32 by omega) (by omega) (show 5000≤K by omega) (by omega)
 have u1:=aCk (d:=d) (f:=f) h.sb.sv hrb (show l.length≤1000 by omega) (show 2000≤K by omega)
 have u2:=wB h.sb.sv hrb (show l.length≤1000 by omega) (show 2000≤K by omega)
 have t1:((4096:Nat):Int)=4096:=rfl
 rw [t1] at c1 c2
 by_cases h0:(wM (Mf d v l) (qf d (qK f) v l) (off v l l.length) 4096).2=0
 ·obtain⟨z1,z2⟩:=aL1 hZ (by omega) h0
  generalize hx:wM (Mf d v l) (qf d (qK f) v l) (off v l l.length) 4096=X at *
  have zb:∀j,j<off v l l.length→Bd 100000 (qK X.1.z j):=fun j hj=>z2 _ (tP (by omega))
  have zm:X.1.z=mp (qK X.1.z) (off v l l.length):=by rw [←z1];exact aKD _
  have pb:=aET zb h.sb.sl
  have pl:=aLd (d:=d) (f:=f) (v10:=X) h.sb.sv h.sb.sl (show l.length≤100 by omega) zb (by omega) (by omega) zm (show 5000≤K by omega) (off v l l.length) 0 K (by omega) (by omega)
  rw [aOH z1] at pl
  have p00:mp (pz v l (tz (qK X.1.z) 0)) l.length=mp (fun _=>(⟨0,0⟩:aF)) l.length:=bV fun i _=>by
   rw [show tz (qK X.1.z) 0=z0 from funext fun j=>aDR (Nat.zero_le _)];exact aIe
  rw [p00] at pl
  simp only [Int.natCast_zero] at pl
  have rp:=aEE h.sb.sv h.sb.sl zb (by omega) (show l.length≤1000 by omega) (show 5000≤K by omega)
  rw [←zm] at rp
  have hA:(2*100000+11+9)*24*l.length≤400000000:=Nat.le_trans (Nat.mul_le_mul_left _ hm) (by decide)
  have a1:=aFE (f0:=f) (v0:=v) h.sb.sd (by omega) h.fbd hrb h.ir (by omega) pb (by omega) hA (show 2000≤K by omega)
  have a2:=aIl h.sb.sd (by omega) h.fbd hrb h.ir (by omega) pb (by omega) hA (show 2000≤K by omega)
  rw [←h.fmp] at a1 a2
  unfold aA7
  rw [hx]
  constructor
  ·simp only [mI,aJn h.sb (show 200≤K by omega),hf,oB,Bool.not_true,bN,u1,sI,dF (show¬(32:Int)<(off v l l.length:Int) by omega),e1,c1,nF h0,aAx (z:=(⟨0,0⟩:aF)) (n:=l.length) (by omega),pl,rM,a1]
  ·simp only [sR,aHj h.sb (show 200≤K by omega),hf,oB,Bool.not_true,bN,u2,zT,dF (show¬(32:Int)<(off v l l.length:Int) by omega),e2,c2,nF h0,rp,a2]
 ·unfold aA7
  constructor
  ·simp only [mI,aJn h.sb (show 200≤K by omega),hf,oB,Bool.not_true,bN,u1,sI,dF (show¬(32:Int)<(off v l l.length:Int) by omega),e1,c1,nT h0,bW]
  ·simp only [sR,aHj h.sb (show 200≤K by omega),hf,oB,Bool.not_true,bN,u2,zT,dF (show¬(32:Int)<(off v l l.length:Int) by omega),e2,c2,nT h0,bW]
end Go.Proofs.YtcjdedkdoagifaaGreat
set_option linter.unusedVariables false
namespace Go.Proofs.YtcjdedkdoagifaaGreat
def zr:aA:=⟨0,0,0,0,0,[],[],0,0⟩
def more:Nat→List aA→List aA
 |0,l=>l
 |t+1,l=>more t (l++[zr])
end Go.Proofs.YtcjdedkdoagifaaGreat
set_option linter.unusedVariables false
namespace Go.Proofs.YtcjdedkdoagifaaGreat
end Go.Proofs.YtcjdedkdoagifaaGreat
set_option linter.unusedVariables false
namespace Go.Proofs.YtcjdedkdoagifaaGreat
/-- Terms of the first n places, in order. -/
def IO (n:Nat) (l:List aE):Prop:=InT n l∧l.Pairwise (fun a b=>a.dof<b.dof)
theorem IO.nil {n:Nat}:IO n []:=⟨fun t h=>absurd h List.not_mem_nil,List.Pairwise.nil⟩
theorem IO.up {n:Nat} {l:List aE} (h:IO n l):IO (n+1) l:=⟨fun t ht=>⟨(h.1 t ht).1,by have:=(h.1 t ht).2;omega⟩,h.2⟩
theorem IO.snoc {n:Nat} {l:List aE} {q:Rat} (h:IO n l):IO (n+1) (l++[⟨(n:Int),q⟩]):=by
 refine⟨fun t ht=>?_,List.pairwise_append.2 ⟨h.2,List.pairwise_singleton _ _,fun a ha b hb=>?_⟩⟩
 ·rcases List.mem_append.1 ht with h1|h1
  ·exact h.up.1 t h1
  ·rw [List.mem_singleton.1 h1];exact⟨by simp only;omega,by simp only;omega⟩
 ·rw [List.mem_singleton.1 hb];exact(h.1 a ha).2
def NT (n:Nat) (l:List aE):Prop:=TB l∧IO n l
def RN (n w:Nat) (r:aA):Prop:=RC r∧IO w r.j∧IO n r.t∧0≤r.mu
def RsN (n w:Nat) (l:List aA):Prop:=∀r∈l,RN n w r
theorem RsN.snoc {n w:Nat} {l:List aA} {r:aA} (h:RsN n w l) (hr:RN n w r):RsN n w (l++[r]):=fun x hx=>by
 rcases List.mem_append.1 hx with h1|h1
 ·exact h x h1
 ·rw [List.mem_singleton.1 h1];exact hr
theorem aB7 {n:Nat} (hn:n≤12):∀(t i:Nat) (out:List aE) (v:Int),i+t=n→0≤v→v≤4000000000000→out.length≤i→(∀t∈out,Bd 8 t.k)→IO i out→∃r,NT n r∧∀K k,t<k→eA K (n:Int) k out v (i:Int)=some r
 |0,i,out,v,hi,h0,h1,hl,hb,hd=>⟨out,⟨⟨by omega,hb⟩,by rw [show n=i by omega];exact hd⟩,fun K k hk=>by
  obtain⟨k',rfl,_⟩:=aZ hk
  simp only [eA,dF (show¬(i:Int)<(n:Int) by omega),bN]⟩
 |t+1,i,out,v,hi,h0,h1,hl,hb,hd=>by
  have m7:=aB6 (a:=v) (m:=7) h0 (by omega)
  obtain⟨x,x1,x2,x3⟩:=tab7 m7.1 m7.2
  have m3:=aB6 (a:=v/7) (m:=3) (by omega) (by omega)
  have e1:u8 v 7=some (v%7):=mM h0 (by omega)
  have e2:vL v 7=some (v/7):=rD h0 (by omega) (by omega)
  have e3:u8 (v/7) 3=some (v/7%3):=mM (by omega) (by omega)
  have e4:vL (v/7) 3=some (v/7/3):=rD (by omega) (by omega) (by omega)
  have e5:aP (1+v/7%3)=some (1+v/7%3):=kD (by omega)
  by_cases hx:x=0
  ·obtain⟨r,r1,r2⟩:=aB7 hn t (i+1) out (v/7/3) (by omega) (by omega) (by omega) (by omega) hb hd.up
   refine⟨r,r1,fun K k hk=>?_⟩
   obtain⟨k',rfl,_⟩:=aZ hk
   simp only [eA,dT (show(i:Int)<(n:Int) by omega),bW,e1,oB,x1,e2,nF hx,bN,e4,mF (i:=i) (by omega)]
   exact r2 K k' (by omega)
  ·obtain⟨q,q1,q2,q3⟩:=aBa (k:=8) (p:=x) (q:=1+v/7%3) (by omega) (by omega) (by omega) (by omega)
   obtain⟨r,r1,r2⟩:=aB7 hn t (i+1) (out++[⟨(i:Int),q⟩]) (v/7/3) (by omega) (by omega) (by omega) (by simp;omega) (fun t ht=>by
    rcases List.mem_append.1 ht with h|h
    ·exact hb t h
    ·rw [List.mem_singleton.1 h];exact q3) hd.snoc
   refine⟨r,r1,fun K k hk=>?_⟩
   obtain⟨k',rfl,_⟩:=aZ hk
   simp only [eA,dT (show(i:Int)<(n:Int) by omega),bW,e1,oB,x1,e2,nT hx,e3,e5,q1,apS (xs:=out) (x:=(⟨(i:Int),q⟩:aE)) (by omega),e4,mF (i:=i) (by omega)]
   exact r2 K k' (by omega)
theorem aC0 {n:Nat} (hn:n≤12) {v:Int} (h0:0≤v) (h1:v≤4000000000000):∃r,NT n r∧∀K,n<K→dX K v (n:Int)=some r:=by
 obtain⟨r,r1,r2⟩:=aB7 hn n 0 [] v (by omega) h0 h1 (by simp) (fun t h=>absurd h List.not_mem_nil) IO.nil
 refine⟨r,r1,fun K hK=>?_⟩
 have:=r2 K K hK
 simp only [Int.natCast_zero] at this
 simp only [dX,this,oB,nP]
theorem aKv {p q:Int} (hp:0≤p) (hq:0<q):(0:Rat)≤(p:Rat)/(q:Rat):=by
 rw [←Rat.divInt_eq_div]
 exact(Rat.divInt_nonneg_iff_of_pos_right hq).2 hp
theorem aKX {q:Rat} (h:0≤q):0≤q.num.sign:=by
 have h2:=Rat.num_nonneg.2 h
 rcases Int.lt_or_eq_of_le h2 with h|h
 ·rw [Int.sign_eq_one_of_pos h];omega
 ·rw [←h];decide
theorem aOM {q:Rat} (h:0≤q) (h0:q≠0):0<q.num.sign:=by
 have h1:=aKX h
 have h2:q.num.sign≠0:=fun e=>h0 (aFo.1 e)
 omega
theorem aEu {l:List Int} (hl:aGp l) (i:Nat) (hi:i≤10) (n:Nat) (hn:1≤n∧n≤4):∃v129 v137 v145 v151 q r131 r139 r197,
  bG l (9+3*(i:Int)) 1099511627776=some v129∧bG l (10+3*(i:Int)) 1099511627776=some v137∧bG l (11+3*(i:Int)) 5=some v145∧bG l (11+3*(i:Int)) 3=some v151∧aP (1+v151)=some (1+v151)∧zC v145 (1+v151)=some q∧Bd 8 q∧0≤v129∧v129≤4000000000000∧NT n r131∧NT n r139∧NT (n-1) r197∧0≤q∧
  ∀K,n<K→dX K v129 (n:Int)=some r131∧dX K v137 (n:Int)=some r139∧dX K v129 ((n:Int)-1)=some r197:=by
 obtain⟨v,v1,v2,v3⟩:=aAN hl (9+3*(i:Int)) (m:=1099511627776) (by omega)
 obtain⟨w,w1,w2,w3⟩:=aAN hl (10+3*(i:Int)) (m:=1099511627776) (by omega)
 obtain⟨x,x1,x2,x3⟩:=aAN hl (11+3*(i:Int)) (m:=5) (by omega)
 obtain⟨y,y1,y2,y3⟩:=aAN hl (11+3*(i:Int)) (m:=3) (by omega)
 obtain⟨q,q1,q2,q3⟩:=aBa (k:=8) (p:=x) (q:=1+y) (by omega) (by omega) (by omega) (by omega)
 obtain⟨a,a1,a2⟩:=aC0 (n:=n) (v:=v) (by omega) v2 (by omega)
 obtain⟨b,b1,b2⟩:=aC0 (n:=n) (v:=w) (by omega) w2 (by omega)
 obtain⟨c,c1,c2⟩:=aC0 (n:=n-1) (v:=v) (by omega) v2 (by omega)
 refine⟨v,w,x,y,q,a,b,c,v1,w1,x1,y1,kD (by omega),q1,q3,v2,by omega,a1,b1,c1,by rw [q2];exact aKv x2 (by omega),fun K hK=>⟨a2 K hK,b2 K hK,?_⟩⟩
 have:=c2 K (by omega)
 rw [show((n-1:Nat):Int)=(n:Int)-1 by omega] at this
 exact this
theorem aEP {l:List Int} (hl:aGp l) {n:Nat} (hn:n≤4):∀(t i:Nat) (a b:List Rat) (d:List aG),i+t=n→a.length=i→b.length=i→d.length=i→u7 8 a→u7 4 b→aPo d→(∀x∈a,x=0)→d.all aB0=true→
  ∃a' b' d',a'.length=n∧b'.length=n∧d'.length=n∧u7 8 a'∧u7 4 b'∧aPo d'∧(∀x∈a',x=0)∧d'.all aB0=true∧∀K k,t<k→gI K l (n:Int) k a b d (i:Int)=some (a',b',d')
 |0,i,a,b,d,hi,h1,h2,h3,h4,h5,h6,h7,h8=>⟨a,b,d,by omega,by omega,by omega,h4,h5,h6,h7,h8,fun K k hk=>by
  obtain⟨k',rfl,_⟩:=aZ hk
  simp only [gI,dF (show¬(i:Int)<(n:Int) by omega),bN]⟩
 |t+1,i,a,b,d,hi,h1,h2,h3,h4,h5,h6,h7,h8=>by
  obtain⟨v,v1,v2,v3⟩:=aAN hl (1+(i:Int)) (m:=1073741824) (by omega)
  have m3:=aB6 (a:=v) (m:=3) v2 (by omega)
  have m4:=aB6 (a:=v/3) (m:=4) (by omega) (by omega)
  have m13:=aB6 (a:=v/12) (m:=13) (by omega) (by omega)
  have m33:=aB6 (a:=v/156) (m:=3) (by omega) (by omega)
  have e0:aP (1+(i:Int))=some (1+(i:Int)):=kD (by omega)
  have e1:u8 v 3=some (v%3):=mM v2 (by omega)
  have e2:aP (1+v%3)=some (1+v%3):=kD (by omega)
  have e3:vL v 3=some (v/3):=rD v2 (by omega) (by omega)
  have e4:u8 (v/3) 4=some (v/3%4):=mM (by omega) (by omega)
  have e5:aP (1+v/3%4)=some (1+v/3%4):=kD (by omega)
  obtain⟨q,q1,q2,q3⟩:=aBa (k:=8) (p:=1+v%3) (q:=1+v/3%4) (by omega) (by omega) (by omega) (by omega)
  have e6:vL v 12=some (v/12):=rD v2 (by omega) (by omega)
  have e7:u8 (v/12) 13=some (v/12%13):=mM (by omega) (by omega)
  have e8:aP (v/12%13-6)=some (v/12%13-6):=kD (by omega)
  have e9:vL v 156=some (v/156):=rD v2 (by omega) (by omega)
  have e10:u8 (v/156) 3=some (v/156%3):=mM (by omega) (by omega)
  have e11:aP (1+v/156%3)=some (1+v/156%3):=kD (by omega)
  obtain⟨p,p1,p2,p3⟩:=aBa (k:=4) (p:=v/12%13-6) (q:=1+v/156%3) (by omega) (by omega) (by omega) (by omega)
  have hq:aNl ⟨q,0,false,0,0⟩:=⟨q3,by rw [q2];exact aOC (by omega) (by omega),Bd.zero.mono (by omega)⟩
  obtain⟨a',b',d',g1,g2,g3,g4,g5,g6,g8,g9,g7⟩:=aEP hl hn t (i+1) (a++[0]) (b++[p]) (d++[⟨q,0,false,0,0⟩]) (by omega) (by simp;omega) (by simp;omega) (by simp;omega) (h4.snoc (Bd.zero.mono (by omega))) (h5.snoc p3) (fun x hx=>by
   rcases List.mem_append.1 hx with h|h
   ·exact h6 x h
   ·rw [List.mem_singleton.1 h];exact hq) (fun x hx=>by
   rcases List.mem_append.1 hx with h|h
   ·exact h7 x h
   ·rw [List.mem_singleton.1 h]) (by
   rw [List.all_append,h8,List.all_cons,show aB0 ⟨q,0,false,0,0⟩=true from decide_eq_true (aOM (by rw [q2];exact aKv (by omega) (by omega)) hq.2.1)];rfl)
  refine⟨a',b',d',g1,g2,g3,g4,g5,g6,g8,g9,fun K k hk=>?_⟩
  obtain⟨k',rfl,_⟩:=aZ hk
  simp only [gI,dT (show(i:Int)<(n:Int) by omega),bW,e0,oB,v1,e1,e2,e3,e4,e5,q1,apS (xs:=d) (x:=(⟨q,0,false,0,0⟩:aG)) (by omega),e6,e7,e8,e9,e10,e11,p1,apS (xs:=b) (x:=p) (by omega),apS (xs:=a) (x:=(0:Rat)) (by omega),mF (i:=i) (by omega)]
  exact g7 K k' (by omega)
theorem aC9 {x107:List aA} {i:Nat} {v129:Int} {r:aA} {n w:Nat} (hi:i≤10) (hv:0≤v129) (hm:Bd 8 r.mu) (hr:RN n w r) (hl:x107.length≤100):∃r',RN n w r'∧∀K recl,eU K x107 (i:Int) v129 recl r=recl (x107++[r']) ((i+1:Nat):Int):=by
 by_cases h0:r.mu=0
 ·refine⟨⟨r.kind,r.a,r.b,r.edge,r.gap,r.j,[],0,r.e⟩,⟨⟨⟨hr.1.1.1,TB.nil⟩,Bd.zero.mono (by omega)⟩,hr.2.1,IO.nil,Rat.le_refl⟩,fun K recl=>?_⟩
  simp only [eU,mY hm (by omega),oB,qT (aFo.2 h0),bW,apS (show x107.length≤60000000000 by omega),mF (i:=i) (by omega)]
 ·by_cases h1:v129%5=0
  ·refine⟨⟨r.kind,r.a,r.b,r.edge,r.gap,r.j,[],0,r.e⟩,⟨⟨⟨hr.1.1.1,TB.nil⟩,Bd.zero.mono (by omega)⟩,hr.2.1,IO.nil,Rat.le_refl⟩,fun K recl=>?_⟩
   simp only [eU,mY hm (by omega),oB,qF (fun h=>h0 (aFo.1 h)),bN,mM hv (show(0:Int)<5 by omega),qT h1,bW,apS (show x107.length≤60000000000 by omega),mF (i:=i) (by omega)]
  ·refine⟨r,hr,fun K recl=>?_⟩
   simp only [eU,mY hm (by omega),oB,qF (fun h=>h0 (aFo.1 h)),bN,mM hv (show(0:Int)<5 by omega),qF h1,apS (show x107.length≤60000000000 by omega),mF (i:=i) (by omega)]
theorem aHv {x107:List aA} {i:Nat} {v129:Int} {a b:List aE} {m:Rat} {n w:Nat} (hi:i≤10) (hv:0≤v129) (hm:Bd 8 m) (ha:NT w a) (hb:NT n b) (hm0:0≤m) (hl:x107.length≤100):∃r',RN n w r'∧∀K recl,fZ K x107 (i:Int) v129 a b m recl=recl (x107++[r']) ((i+1:Nat):Int):=by
 by_cases h0:m=0
 ·refine⟨⟨0,0,(i:Int),0,0,a,[],0,0⟩,⟨⟨⟨ha.1,TB.nil⟩,Bd.zero.mono (by omega)⟩,ha.2,IO.nil,Rat.le_refl⟩,fun K recl=>?_⟩
  simp only [fZ,mY hm (by omega),oB,qT (aFo.2 h0),bW,apS (show x107.length≤60000000000 by omega),mF (i:=i) (by omega)]
 ·by_cases h1:v129%5=0
  ·refine⟨⟨0,0,(i:Int),0,0,a,[],0,0⟩,⟨⟨⟨ha.1,TB.nil⟩,Bd.zero.mono (by omega)⟩,ha.2,IO.nil,Rat.le_refl⟩,fun K recl=>?_⟩
   simp only [fZ,mY hm (by omega),oB,qF (fun h=>h0 (aFo.1 h)),bN,mM hv (show(0:Int)<5 by omega),qT h1,bW,apS (show x107.length≤60000000000 by omega),mF (i:=i) (by omega)]
  ·refine⟨⟨0,0,(i:Int),0,0,a,b,m,0⟩,⟨⟨⟨ha.1,hb.1⟩,hm⟩,ha.2,hb.2,hm0⟩,fun K recl=>?_⟩
   simp only [fZ,mY hm (by omega),oB,qF (fun h=>h0 (aFo.1 h)),bN,mM hv (show(0:Int)<5 by omega),qF h1,apS (show x107.length≤60000000000 by omega),mF (i:=i) (by omega)]
theorem aA3 {l:List Int} (hl:aGp l) (a1:Bool) (n:Nat) (hn:1≤n∧n≤4) {v8:Int} (h8:bG l 8 5=some v8) (h8':v8<5):∀(t i:Nat) (x:List aA),i+t=4→x.length=i→RsN n (bif a1 then n else n-1) x→
  ∃r,RsN n (bif a1 then n else n-1) r∧r.length≤4∧∀K k,n<K→t<k→cO K l a1 (n:Int) k x (i:Int)=some r
 |0,i,x,hi,hx,hr=>⟨x,hr,by omega,fun K k hK hk=>by
  obtain⟨k',rfl,_⟩:=aZ hk
  simp only [cO,h8,oB,dF (show¬(i:Int)<v8 by omega),bN]⟩
 |t+1,i,x,hi,hx,hr=>by
  by_cases hlt:(i:Int)<v8
  ·obtain⟨v129,v137,v145,v151,q,r131,r139,r197,b1,b2,b3,b4,b5,b6,b7,b8,b9,b10,b11,b12,b14,b13⟩:=aEu hl i (by omega) n hn
   have e3:aP (3*(i:Int))=some (3*(i:Int)):=kD (by omega)
   have e9:aP (9+3*(i:Int))=some (9+3*(i:Int)):=kD (by omega)
   have e10:aP (10+3*(i:Int))=some (10+3*(i:Int)):=kD (by omega)
   have e11:aP (11+3*(i:Int))=some (11+3*(i:Int)):=kD (by omega)
   have en:aP ((n:Int)-1)=some ((n:Int)-1):=kD (by omega)
   cases a1
   ·obtain⟨r',c1,c2⟩:=aC9 (x107:=x) (i:=i) (v129:=v129) (r:=⟨0,0,(i:Int),0,0,r197,r139,q,0⟩) (by omega) b8 b7 (n:=n) (w:=n-1) ⟨⟨⟨b12.1,b11.1⟩,b7⟩,b12.2,b11.2,b14⟩ (by omega)
    obtain⟨r,d1,d2,d3⟩:=aA3 hl false n hn h8 h8' t (i+1) (x++[r']) (by omega) (by simp;omega) (hr.snoc c1)
    refine⟨r,d1,d2,fun K k hK hk=>?_⟩
    obtain⟨k',rfl,_⟩:=aZ hk
    obtain⟨s1,s2,s3⟩:=b13 K hK
    simp only [cO,h8,oB,dT hlt,bW,e3,e9,e10,e11,b1,b2,b3,b4,b5,b6,s1,s2,s3,Bool.not_false,en,c2]
    exact d3 K k' hK (by omega)
   ·obtain⟨r',c1,c2⟩:=aC9 (x107:=x) (i:=i) (v129:=v129) (r:=⟨0,0,(i:Int),0,0,r131,r139,q,0⟩) (by omega) b8 b7 (n:=n) (w:=n) ⟨⟨⟨b10.1,b11.1⟩,b7⟩,b10.2,b11.2,b14⟩ (by omega)
    obtain⟨r,d1,d2,d3⟩:=aA3 hl true n hn h8 h8' t (i+1) (x++[r']) (by omega) (by simp;omega) (hr.snoc c1)
    refine⟨r,d1,d2,fun K k hK hk=>?_⟩
    obtain⟨k',rfl,_⟩:=aZ hk
    obtain⟨s1,s2,s3⟩:=b13 K hK
    simp only [cO,h8,oB,dT hlt,bW,e3,e9,e10,e11,b1,b2,b3,b4,b5,b6,s1,s2,Bool.not_true,bN,c2]
    exact d3 K k' hK (by omega)
  ·refine⟨x,hr,by omega,fun K k hK hk=>?_⟩
   obtain⟨k',rfl,_⟩:=aZ hk
   simp only [cO,h8,oB,dF hlt,bN]
theorem aDh {l:List Int} (hl:aGp l) (n:Nat) (hn:1≤n∧n≤4) {v8:Int} (h8:bG l 8 5=some v8) (h8':v8<5):∀(t i:Nat) (x:List aA),i+t=4→x.length=i→RsN n n x→
  ∃r,RsN n n r∧r.length≤4∧∀K k,n<K→t<k→dS K l (n:Int) k x (i:Int)=some r
 |0,i,x,hi,hx,hr=>⟨x,hr,by omega,fun K k hK hk=>by
  obtain⟨k',rfl,_⟩:=aZ hk
  simp only [dS,h8,oB,dF (show¬(i:Int)<v8 by omega),bN]⟩
 |t+1,i,x,hi,hx,hr=>by
  by_cases hlt:(i:Int)<v8
  ·obtain⟨v129,v137,v145,v151,q,r131,r139,r197,b1,b2,b3,b4,b5,b6,b7,b8,b9,b10,b11,b12,b14,b13⟩:=aEu hl i (by omega) n hn
   have e3:aP (3*(i:Int))=some (3*(i:Int)):=kD (by omega)
   have e9:aP (9+3*(i:Int))=some (9+3*(i:Int)):=kD (by omega)
   have e10:aP (10+3*(i:Int))=some (10+3*(i:Int)):=kD (by omega)
   have e11:aP (11+3*(i:Int))=some (11+3*(i:Int)):=kD (by omega)
   obtain⟨r',c1,c2⟩:=aHv (x107:=x) (i:=i) (v129:=v129) (a:=r131) (b:=r139) (m:=q) (by omega) b8 b7 b10 b11 b14 (by omega)
   obtain⟨r,d1,d2,d3⟩:=aDh hl n hn h8 h8' t (i+1) (x++[r']) (by omega) (by simp;omega) (hr.snoc c1)
   refine⟨r,d1,d2,fun K k hK hk=>?_⟩
   obtain⟨k',rfl,_⟩:=aZ hk
   obtain⟨s1,s2,s3⟩:=b13 K hK
   simp only [dS,h8,oB,dT hlt,bW,e3,e9,e10,e11,b1,b2,b3,b4,b5,b6,s1,s2,c2]
   exact d3 K k' hK (by omega)
  ·refine⟨x,hr,by omega,fun K k hK hk=>?_⟩
   obtain⟨k',rfl,_⟩:=aZ hk
   simp only [dS,h8,oB,dF hlt,bN]
theorem aKR {n w:Nat} {l:List aE} (h:IO w l) (hw:w≤n):∀t i,i+t=l.length→tks n l t i=true
 |0,_,_=>rfl
 |t+1,i,hi=>by
  unfold tks
  rw [aKR h hw t (i+1) (by omega),Bool.and_true]
  have hil:i<l.length:=by omega
  have e:∀k,(hk:k<l.length)→t8 l k=l[k]:=fun k hk=>by
   unfold t8;simp only [List.getD_eq_getElem?_getD,List.getElem?_eq_getElem hk,Option.getD_some]
  have h1:=h.1 l[i] (List.getElem_mem hil)
  refine decide_eq_true ⟨by rw [e i hil];exact h1.1,by rw [e i hil];have:=h1.2;omega,fun h0=>?_⟩
  rw [e i hil,e (i-1) (by omega)]
  exact List.pairwise_iff_getElem.1 h.2 (i-1) i (by omega) hil (by omega)
theorem aNH {v:List Rat}:∀(l:List aE) (x:Rat),(∀t∈l,trm v t=0)→rtf v l x=x
 |[],x,_=>rfl
 |t::l,x,h=>by
  unfold rtf
  rw [h t (List.mem_cons_self ..),Rat.add_zero]
  exact aNH l x fun u hu=>h u (List.mem_cons_of_mem _ hu)
theorem aHX {d:List aG} {f v:List Rat} {l:List aA} {n w:Nat} (hn:n≤4) (hw:w≤n) (hd:d.length=n) (hf:f.length=n) (hv:v.length=n) (hp:d.all aB0=true) (hl:RsN n w l) (h0:∀j,j<w→qK v j=0):aAX d f v l=true:=by
 unfold aAX
 rw [hp,decide_eq_true (show d.length≤12∧f.length=d.length∧v.length=d.length by omega),Bool.true_and,Bool.true_and]
 refine List.all_eq_true.2 fun r hr=>?_
 obtain⟨r1,r2,r3,r4⟩:=hl r hr
 have e:rt r.j v=0:=aNH _ _ fun t ht=>by
  have:=r2.1 t ht
  unfold trm
  rw [decide_eq_true (show 0≤t.dof∧t.dof<(v.length:Int) by omega),bW,h0 _ (by omega),Rat.mul_zero]
 unfold zL qW tOk
 rw [e,hd,aKR r2 hw _ _ (Nat.zero_add _),aKR r3 (Nat.le_refl n) _ _ (Nat.zero_add _),decide_eq_true (aKX r4)];rfl
theorem aEY {a:List Rat} (h:∀x∈a,x=0) (j:Nat):qK a j=0:=by
 by_cases e:j<a.length
 ·exact h _ (tP e)
 ·unfold qK;rw [List.getD_eq_getElem?_getD,List.getElem?_eq_none (by omega)];rfl
theorem aL9 {l:List Int} (hl:aGp l) (rest:Bool):∃s,aOW s∧aAX s.dofs s.load s.v s.rows=true∧u7 4 s.load∧Ev (fun K=>kB K l rest) s:=by
 obtain⟨v0,a1,a2,a3⟩:=aAN hl 0 (m:=4) (by omega)
 obtain⟨n,hn⟩:∃n:Nat,1+v0=(n:Int):=⟨(1+v0).toNat,by omega⟩
 have e1:aP (1+v0)=some (n:Int):=by rw [kD (by omega),hn]
 obtain⟨a,b,d,g1,g2,g3,g4,g5,g6,g8,g9,g7⟩:=aEP hl (n:=n) (by omega) n 0 [] [] [] (by omega) rfl rfl rfl (fun t h=>absurd h List.not_mem_nil) (fun t h=>absurd h List.not_mem_nil) (fun t h=>absurd h List.not_mem_nil) (fun t h=>absurd h List.not_mem_nil) rfl
 obtain⟨v5,b1,b2,b3⟩:=aAN hl 5 (m:=3) (by omega)
 obtain⟨v8,c1,c2,c3⟩:=aAN hl 8 (m:=5) (by omega)
 obtain⟨r,d1,d2,d3⟩:=aDh hl n (by omega) c1 c3 4 0 [] rfl rfl (fun x h=>absurd h List.not_mem_nil)
 obtain⟨r',d1',d2',d3'⟩:=aA3 hl rest n (by omega) c1 c3 4 0 [] rfl rfl (fun x h=>absurd h List.not_mem_nil)
 simp only [Int.natCast_zero] at g7 d3 d3'
 by_cases h5:0<v5
 ·cases rest
  ·obtain⟨v6,f1,f2,f3⟩:=aAN hl 6 (m:=9) (by omega)
   obtain⟨v7,f4,f5,f6⟩:=aAN hl 7 (m:=3) (by omega)
   obtain⟨q,q1,q2,q3⟩:=aBa (k:=8) (p:=v6-4) (q:=1+v7) (by omega) (by omega) (by omega) (by omega)
   have e2:aP ((n:Int)-1)=some ((n-1:Nat):Int):=zG (m:=0) (by omega) (by omega)
   have e3:aP (v6-4)=some (v6-4):=kD (by omega)
   have e4:aP (1+v7)=some (1+v7):=kD (by omega)
   refine⟨⟨d,b,a.set (n-1) q,r'⟩,⟨by simp only;omega,by simp only;omega,g6,by simp only;omega,by simp only [List.length_set];omega,(fun x hx=>(g5 x hx).mono (by omega)),fun x hx=>?_,fun x hx=>(d1' x hx).1.1,d2',fun x hx=>(d1' x hx).1⟩,aHX (n:=n) (w:=n-1) (by omega) (by omega) g3 g2 (by simp only [List.length_set];omega) g9 d1' fun j hj=>by unfold qK;rw [List.getD_eq_getElem?_getD,List.getElem?_set_ne (by omega),←List.getD_eq_getElem?_getD];exact aEY g8 j,g5,⟨6+n,fun K hK=>?_⟩⟩
   ·rcases List.mem_or_eq_of_mem_set hx with h|h
    ·exact g4 x h
    ·rw [h];exact q3
   ·simp only [kB,a1,oB,e1,g7 K K (by omega),iT,b1,dT h5,bW,Bool.not_false,e2,f1,e3,f4,e4,q1,aDU (l:=a) (i:=n-1) (by omega),stG (xs:=a) (i:=n-1) (v:=q) (by omega),iU,d3' K K (by omega) (by omega),kK]
  ·refine⟨⟨d,b,a,r'⟩,⟨by simp only;omega,by simp only;omega,g6,by simp only;omega,by simp only;omega,(fun x hx=>(g5 x hx).mono (by omega)),g4,fun x hx=>(d1' x hx).1.1,d2',fun x hx=>(d1' x hx).1⟩,aHX (n:=n) (w:=n) (by omega) (by omega) g3 g2 g1 g9 d1' fun j _=>aEY g8 j,g5,⟨6+n,fun K hK=>?_⟩⟩
   simp only [kB,a1,oB,e1,g7 K K (by omega),iT,b1,dT h5,bW,Bool.not_true,bN,iU,d3' K K (by omega) (by omega),kK]
 ·refine⟨⟨d,b,a,r⟩,⟨by simp only;omega,by simp only;omega,g6,by simp only;omega,by simp only;omega,(fun x hx=>(g5 x hx).mono (by omega)),g4,fun x hx=>(d1 x hx).1.1,d2,fun x hx=>(d1 x hx).1⟩,aHX (n:=n) (w:=n) (by omega) (by omega) g3 g2 g1 g9 d1 fun j _=>aEY g8 j,g5,⟨6+n,fun K hK=>?_⟩⟩
  simp only [kB,a1,oB,e1,g7 K K (by omega),iT,b1,dF h5,bN,mX,d3 K K (by omega) (by omega),m9]
end Go.Proofs.YtcjdedkdoagifaaGreat
set_option linter.unusedVariables false
namespace Go.Proofs.YtcjdedkdoagifaaGreat
/-- The last column multiplied. -/
def scl (n:Nat) (c:Rat) (T:Nat→Nat→Rat) (i k:Nat):Rat:=if 2*n<k then c*T i k else T i k
theorem xI {n i k:Nat} {c:Rat} {T:Nat→Nat→Rat} (h:k≤2*n):scl n c T i k=T i k:=if_neg (by omega)
theorem aC2 {n i k:Nat} {c:Rat} {T:Nat→Nat→Rat} (h:2*n<k):scl n c T i k=c*T i k:=if_pos h
theorem aBp {n i:Nat} {c:Rat} {T:Nat→Nat→Rat}:scl n c T i (2*n+1)=c*T i (2*n+1):=aC2 (by omega)
theorem aMU {n r j:Nat} {c:Rat} {T:Nat→Nat→Rat} (h:j≤2*n):wD (scl n c T) r j=scl n c (wD T r j):=by
 funext i k
 unfold wD
 rw [xI h,xI h]
 by_cases e:k≤2*n
 ·rw [xI e,xI e,xI e]
 ·rw [aC2 (by omega),aC2 (by omega),aC2 (by omega)]
  by_cases e2:i=r
  ·rw [if_pos e2,if_pos e2];grind
  ·rw [if_neg e2,if_neg e2];grind
theorem aCn {c x y:Rat} (hc:0<c):(c*x<c*y)↔x<y:=by
 constructor
 ·intro h
  by_cases h1:x<y
  ·exact h1
  ·exact absurd h (Rat.not_lt.2 (Rat.mul_le_mul_of_nonneg_left (Rat.not_lt.1 h1) (Rat.le_of_lt hc)))
 ·intro h
  exact Rat.mul_lt_mul_of_pos_left h hc
theorem aKO {n i k:Nat} {c a b:Rat} {T:Nat→Nat→Rat} (hc:0<c):∀t j,j+t≤n+1→lx (scl n c T) n i a k b t j=lx T n i a k b t j
 |0,_,_=>rfl
 |t+1,j,h=>by
  unfold lx
  rw [aKO hc t (j+1) (by omega)]
  by_cases e:j=0
  ·subst e
   have e1:sV n 0=2*n+1:=rfl
   rw [e1,aBp,aBp]
   have h1:(c*T i (2*n+1)/a=c*T k (2*n+1)/b)↔(T i (2*n+1)/a=T k (2*n+1)/b):=by grind
   have h2:(c*T i (2*n+1)/a<c*T k (2*n+1)/b)↔(T i (2*n+1)/a<T k (2*n+1)/b):=by
    rw [show c*T i (2*n+1)/a=c*(T i (2*n+1)/a) by grind,show c*T k (2*n+1)/b=c*(T k (2*n+1)/b) by grind]
    exact aCn hc
   rw [decide_eq_decide.2 h1,decide_eq_decide.2 h2]
  ·have e1:sV n j≤2*n:=by unfold sV;rw [if_neg e];omega
   rw [xI e1,xI e1]
theorem aIK {n i k:Nat} {c a b:Rat} {T:Nat→Nat→Rat} (hc:0<c):les (scl n c T) n i a k b=les T n i a k b:=aKO hc _ _ (by omega)
theorem aCu {n j:Nat} {c:Rat} {T:Nat→Nat→Rat} (hc:0<c) (h:j≤2*n):∀t i s,sel (scl n c T) n j t i s=sel T n j t i s
 |0,_,_=>rfl
 |t+1,i,s=>by
  unfold sel
  rw [xI h,aCu hc h t]
  cases s with
  |none=>simp only [aCu hc h t]
  |some r=>simp only [xI h,aIK hc,aCu hc h t]
theorem aDw {n:Nat} {c:Rat} {T:Nat→Nat→Rat} (hc:0<c):∀t i r,y5 (scl n c T) n t i r=y5 T n t i r
 |0,_,_=>rfl
 |t+1,i,r=>by
  unfold y5
  rw [aIK hc,aDw hc t,aDw hc t]
theorem aIu {f:Nat→Rat} {c x:Rat} {j:Nat}:jI (fun i=>c*f i) j (c*x)=fun i=>c*jI f j x i:=by
 funext i
 by_cases e:i=j
 ·rw [e,bD,bD]
 ·rw [cZ e,cZ e]
theorem aHm {c:Rat}:z0=fun i=>c*z0 i:=by funext i;show(0:Rat)=c*0;grind
theorem aJf {n:Nat} {c:Rat} {T:Nat→Nat→Rat} {b:Nat→Nat}:∀i,swv (scl n c T) b n i=fun j=>c*swv T b n i j
 |0=>aHm
 |i+1=>by
  unfold swv
  rw [aJf i,aBp]
  split
  ·exact aIu
  ·rfl
theorem aIN {n:Nat} {c:Rat} {T:Nat→Nat→Rat} {b:Nat→Nat}:∀i,szv (scl n c T) b n i=fun j=>c*szv T b n i j
 |0=>aHm
 |i+1=>by
  unfold szv
  rw [aIN i,aBp]
  split
  ·rfl
  ·split
   ·exact aIu
   ·rfl
def aLA (c:Rat) (x:aM):aM:=⟨x.z.map (c*·),x.w.map (c*·),x.pivots⟩
theorem aDu {f:Nat→Rat} {n:Nat} {c:Rat}:(mp f n).map (c*·)=mp (fun j=>c*f j) n:=by
 unfold mp;rw [List.map_map];rfl
theorem aJi {n most:Nat} {c:Rat} (hc:0<c):∀f T b r j cnt,j≤2*n→r<n→(∀i,i<n→b i≤2*n)→lem n most f (scl n c T) b r j cnt=(aLA c (lem n most f T b r j cnt).1,(lem n most f T b r j cnt).2)
 |0,T,b,r,j,cnt,hj,hr,hb=>rfl
 |f+1,T,b,r,j,cnt,hj,hr,hb=>by
  unfold lem
  rw [aMU hj]
  by_cases e:cnt=most
  ·rw [if_pos e,if_pos e];rfl
  ·rw [if_neg e,if_neg e]
   by_cases e2:b r=2*n
   ·rw [if_pos e2,if_pos e2,aJf,aIN]
    unfold aLA
    rw [aDu,aDu]
   ·rw [if_neg e2,if_neg e2]
    have hlt:=aFm (hb r hr) e2
    rw [aCu hc (by omega)]
    cases hs:sel (wD T r j) n (if b r<n then b r+n else b r-n) n 0 none with
    |none=>rfl
    |some r'=>
     obtain⟨s1,s2⟩:=xV n 0 none r' (fun q hq=>by cases hq) hs
     exact aJi hc f (wD T r j) (jI b r j) r' _ (cnt+1) (by omega) (by omega) (fun i hi=>by
      by_cases e3:i=r
      ·rw [e3,bD];exact hj
      ·rw [cZ e3];exact hb i hi)
theorem aM0 {M:Nat→Nat→Rat} {q:Nat→Rat} {n:Nat} {c:Rat}:wG M (fun i=>c*q i) n=scl n c (wG M q n):=by
 funext i k
 by_cases e:k≤2*n
 ·rw [xI e];unfold wG
  by_cases h1:k<n
  ·rw [if_pos h1,if_pos h1]
  ·by_cases h2:k<2*n
   ·rw [if_neg h1,if_pos h2,if_neg h1,if_pos h2]
   ·rw [if_neg h1,if_neg h2,if_pos (by omega),if_neg h1,if_neg h2,if_pos (by omega)]
 ·rw [aC2 (by omega)];unfold wG
  rw [if_neg (by omega),if_neg (by omega),if_neg (by omega),if_neg (by omega),if_neg (by omega),if_neg (by omega)]
theorem aLa {c x:Rat} (hc:0<c):((c*x).num.sign<0)↔(x.num.sign<0):=by
 have k:∀y:Rat,y.num.sign<0↔y<0:=fun y=>by
  rw [Int.sign_neg_iff,←Int.not_le,Rat.num_nonneg,Rat.not_le]
 rw [k,k]
 have:=aCn (c:=c) (x:=x) (y:=0) hc
 rwa [Rat.mul_zero] at this
theorem aK0 {q:Nat→Rat} {c:Rat} (hc:0<c):∀t i,ng (fun i=>c*q i) t i=ng q t i
 |0,_=>rfl
 |t+1,i=>by
  unfold ng
  rw [aK0 hc t,decide_eq_decide.2 (aLa hc)]
theorem aLI {M:Nat→Nat→Rat} {q:Nat→Rat} {n most:Nat} {c:Rat} (hc:0<c):wM M (fun i=>c*q i) n most=(aLA c (wM M q n most).1,(wM M q n most).2):=by
 unfold wM
 rw [aK0 hc]
 by_cases hneg:ng q n 0=true
 ·rw [hneg,bW,bW,aM0,aDw hc]
  exact aJi hc _ _ _ _ _ _ (Nat.le_refl _) (aBf n 0 0 (aFp hneg) (by omega)) (fun i hi=>by omega)
 ·have hneg':ng q n 0=false:=by cases h:ng q n 0 with|true=>exact absurd h hneg|false=>rfl
  rw [hneg',bN,bN]
  unfold aLA
  rw [aDu,aDu,←aHm]
end Go.Proofs.YtcjdedkdoagifaaGreat
set_option linter.unusedVariables false
namespace Go.Proofs.YtcjdedkdoagifaaGreat
theorem aLu {c:Rat} {f:Nat→Rat}:∀n,sm (fun j=>c*f j) n=c*sm f n
 |0=>by unfold sm;grind
 |n+1=>by unfold sm;rw [aLu n];grind
def cP (c:Rat) (p:Nat→aF):Nat→aF:=fun i=>⟨c*(p i).n,c*(p i).f⟩
theorem aKG {c:Rat} {l:List aA} {p:Nat→aF} {m j:Nat}:sF l (cP c p) m j=c*sF l p m j:=by
 unfold sF
 rw [←aLu]
 refine iY fun r _=>?_
 unfold rcq cP
 grind
theorem aIw {c:Rat} {d:List aG} {f:Nat→Rat} {l:List aA} {p:Nat→aF}:acc d (fun j=>c*f j) l (cP c p)=fun j=>c*acc d f l p j:=by
 funext j
 unfold acc
 rw [aKG];grind
theorem aPr {c:Rat}:p0=cP c p0:=by
 funext i
 show(⟨0,0⟩:aF)=⟨c*0,c*0⟩
 rw [Rat.mul_zero]
theorem aNb {c:Rat} {f:Nat→Rat} {n:Nat} (t:aE):trm (mp (fun j=>c*f j) n) t=c*trm (mp f n) t:=by
 unfold trm
 rw [cB,cB]
 by_cases h:0≤t.dof∧t.dof<(n:Int)
 ·rw [decide_eq_true h,bW,bW,aAT (show t.dof.toNat<n by omega),aAT (show t.dof.toNat<n by omega)];grind
 ·rw [decide_eq_false h,bN,bN,Rat.mul_zero]
theorem aI5 {c:Rat} {f:Nat→Rat} {n:Nat}:∀(l:List aE) (x:Rat),rtf (mp (fun j=>c*f j) n) l (c*x)=c*rtf (mp f n) l x
 |[],x=>rfl
 |t::l,x=>by
  unfold rtf
  rw [aNb,←Rat.mul_add];exact aI5 l _
theorem aKJ {c:Rat} {f:Nat→Rat} {n:Nat} (l:List aE):rt l (mp (fun j=>c*f j) n)=c*rt l (mp f n):=by
 have:=aI5 (c:=c) (f:=f) (n:=n) l 0
 rwa [Rat.mul_zero] at this
theorem aOY {c:Rat} {v:List Rat} {l:List aA} {f:Nat→Rat} {n k:Nat}:rv v l (mp (fun j=>c*f j) n) k=c*rv v l (mp f n) k:=by
 unfold rv
 rw [aKJ,aKJ]
 split
 ·rfl
 ·split
  ·rfl
  ·split
   ·grind
   ·rw [Rat.mul_zero]
theorem aPA {c:Rat} {d:List aG} {f:Nat→Rat} {v:List Rat} {l:List aA}:qf d (fun j=>c*f j) v l=fun i=>c*qf d f v l i:=by
 funext i
 unfold qf
 rw [←aOY,←aIw,←aPr]
theorem aOI {c:Rat} {v:List Rat} {l:List aA} {z:Nat→Rat}:pz v l (fun k=>c*z k)=cP c (pz v l z):=by
 funext i
 unfold pz cP
 by_cases h:(lH l i).t.length=0
 ·simp only [if_pos h,Rat.mul_zero]
 ·by_cases h2:(rt (lH l i).t v).num.sign≠0
  ·simp only [if_neg h,if_pos h2]
   congr 1;grind
  ·simp only [if_neg h,if_neg h2]
   congr 1;grind
theorem aE3 {c:Rat} {x:List Rat}:qK (x.map (c*·))=fun j=>c*qK x j:=by
 funext j
 unfold qK
 rw [List.getD_eq_getElem?_getD,List.getD_eq_getElem?_getD,List.getElem?_map]
 cases x[j]? with
 |none=>show(0:Rat)=c*0;rw [Rat.mul_zero]
 |some y=>rfl
theorem aLt {c:Rat} (hc:0<c) {d:List aG} {f v:List Rat} {l:List aA}:aA7 d (f.map (c*·)) v l=((aA7 d f v l).1.map (c*·),(aA7 d f v l).2.1.map (fun p=>⟨c*p.n,c*p.f⟩),(aA7 d f v l).2.2):=by
 unfold aA7
 rw [aE3,aPA,aLI hc]
 unfold aLA
 cases h:((wM (Mf d v l) (qf d (qK f) v l) (off v l l.length) 4096).2 != 0)
 ·simp only [bN]
  rw [aE3,aOI,aIw,aDu]
  unfold mp cP
  rw [List.map_map];rfl
 ·simp only [bW];rfl
end Go.Proofs.YtcjdedkdoagifaaGreat
set_option linter.unusedVariables false
namespace Go.Proofs.YtcjdedkdoagifaaGreat
theorem aMz {c:Rat} {x:List Rat} {i:Nat} (h:i<x.length):bK (x.map (c*·)) (i:Int)=some (c*qK x i):=by
 have e:=aDU (l:=x.map (c*·)) (i:=i) (by rw [List.length_map];exact h)
 rw [aE3] at e;exact e
theorem aIW {s:aK} {c:Rat} (hb:u7 4 s.load) (hc:Bd 4 c) (hn:s.load.length≤1000) (K:Nat):∀(t i k:Nat),i+t=s.load.length→t<k→dL K s c k ((s.load.take i).map (c*·)) (i:Int)=some (s.load.map (c*·))
 |0,i,k,hi,hk=>by
  obtain⟨k',rfl,_⟩:=aZ hk
  rw [List.take_of_length_le (by omega)]
  simp only [dL,dF (show¬(i:Int)<(s.load.length:Int) by omega),bN]
 |t+1,i,k,hi,hk=>by
  obtain⟨k',rfl,_⟩:=aZ hk
  have hil:i<s.load.length:=by omega
  have e:(s.load.take i).map (c*·)++[qK s.load i*c]=(s.load.take (i+1)).map (c*·):=by
   have:qK s.load i=s.load[i]:=by unfold qK;simp [List.getD_eq_getElem?_getD,hil]
   rw [List.take_succ_eq_append_getElem hil,List.map_append,List.map_cons,List.map_nil,←this,Rat.mul_comm]
  simp only [dL,dT (show(i:Int)<(s.load.length:Int) by omega),bW,aDU hil,oB,oH (hb _ (tP hil)) hc (by omega) (by omega),apS (xs:=(s.load.take i).map (c*·)) (x:=qK s.load i*c) (by simp;omega),mF (i:=i) (by omega),e]
  exact aIW hb hc hn K t (i+1) k' (by omega) (by omega)
theorem aIS {c:Rat} {B:Nat} {v w:List Rat×List aF×Int} (hw:w.1=v.1.map (c*·)) (hb:u7 B v.1) (hB:B≤900000000) (hc:Bd 4 c) (hn:v.1.length≤1000) (K:Nat):∀(t i k:Nat),i+t=v.1.length→t<k→dQ K c v w k (i:Int)=some (.go ())
 |0,i,k,hi,hk=>by
  obtain⟨k',rfl,_⟩:=aZ hk
  simp only [dQ,dF (show¬(i:Int)<(v.1.length:Int) by omega),bN]
 |t+1,i,k,hi,hk=>by
  obtain⟨k',rfl,_⟩:=aZ hk
  have hil:i<v.1.length:=by omega
  have b:=hb _ (tP hil)
  simp only [dQ,dT (show(i:Int)<(v.1.length:Int) by omega),bW,aDU hil,oB,oH b hc (by omega) (by omega),hw,aMz hil,Rat.mul_comm (qK v.1 i) c,aDl (hc.mul b) (hc.mul b) (by omega) (by omega),decide_true,Bool.not_true,bN,mF (i:=i) (by omega)]
  exact aIS hw hb hB hc hn K t (i+1) k' (by omega) (by omega)
theorem aIy {c:Rat} {B:Nat} {v w:List Rat×List aF×Int} (hw:w.2.1=v.2.1.map (fun p=>⟨c*p.n,c*p.f⟩)) (hb:∀p∈v.2.1,Bd B p.n∧Bd B p.f) (hB:B≤900000000) (hc:Bd 4 c) (hn:v.2.1.length≤1000) (K:Nat):∀(t i k:Nat),i+t=v.2.1.length→t<k→dK K c v w k (i:Int)=some (.go ())
 |0,i,k,hi,hk=>by
  obtain⟨k',rfl,_⟩:=aZ hk
  simp only [dK,dF (show¬(i:Int)<(v.2.1.length:Int) by omega),bN]
 |t+1,i,k,hi,hk=>by
  obtain⟨k',rfl,_⟩:=aZ hk
  have hil:i<v.2.1.length:=by omega
  have e1:bK v.2.1 (i:Int)=some v.2.1[i]:=rdG (List.getElem?_eq_getElem hil)
  have e2:bK (v.2.1.map (fun p=>(⟨c*p.n,c*p.f⟩:aF))) (i:Int)=some ⟨c*v.2.1[i].n,c*v.2.1[i].f⟩:=rdG (by rw [List.getElem?_map,List.getElem?_eq_getElem hil];rfl)
  obtain⟨b1,b2⟩:=hb _ (List.getElem_mem hil)
  simp only [dK,dT (show(i:Int)<(v.2.1.length:Int) by omega),bW,e1,oB,oH b1 hc (by omega) (by omega),oH b2 hc (by omega) (by omega),hw,e2,Rat.mul_comm _ c,aDl (hc.mul b1) (hc.mul b1) (by omega) (by omega),aDl (hc.mul b2) (hc.mul b2) (by omega) (by omega),decide_true,Bool.not_true,bN,mF (i:=i) (by omega)]
  exact aIy hw hb hB hc hn K t (i+1) k' (by omega) (by omega)
theorem aK7 {d:List aG} {f f' v:List Rat} {l:List aA} (h:f'.length=f.length):aAX d f' v l=aAX d f v l:=by unfold aAX;rw [h]
theorem aNj {d:List aG} {f v:List Rat} {l:List aA} (h:ScB d f v l) (hm:l.length≤5) (h8:∀j,j<d.length→Bd 8 (qK f j)):u7 100000000 (aA7 d f v l).1∧(∀p∈(aA7 d f v l).2.1,Bd 100000000 p.n∧Bd 100000000 p.f)∧(aA7 d f v l).1.length≤1000∧(aA7 d f v l).2.1.length≤1000:=by
 have hn:=h.n8
 have hrb:RsB l:=fun r hr=>(h.sb.sl r hr).1
 unfold aA7
 by_cases h0:(wM (Mf d v l) (qf d (qK f) v l) (off v l l.length) 4096).2=0
 ·rw [nF h0,bN]
  obtain⟨z1,z2⟩:=aL1 (aKk h hm h8) (by omega) h0
  have zb:∀j,j<off v l l.length→Bd 100000 (qK (wM (Mf d v l) (qf d (qK f) v l) (off v l l.length) 4096).1.z j):=fun j hj=>z2 _ (tP (by omega))
  have pb:=aET zb h.sb.sl
  have hA:(2*100000+11+9)*24*l.length≤400000000:=Nat.le_trans (Nat.mul_le_mul_left _ hm) (by decide)
  have ab:=aDc h.sb.sd h.fbd hrb h.ir pb (by omega) (by omega) (by omega) hA
  have aB:aHB 64 (2*100000+11) l.length≤100000000:=by unfold aHB;omega
  refine⟨fun x hx=>(ab x hx).mono aB,fun p hp=>?_,by rw [cB];omega,by simp only [mp,List.length_map,List.length_range];omega⟩
  obtain⟨i,hi,rfl⟩:=List.mem_map.1 hp
  obtain⟨b1,b2⟩:=pb i (List.mem_range.1 hi)
  exact⟨b1.mono (by omega),b2.mono (by omega)⟩
 ·rw [nT h0,bW]
  exact⟨fun x hx=>absurd hx List.not_mem_nil,fun x hx=>absurd hx List.not_mem_nil,by simp,by simp⟩
theorem aCe {a0:List Int} {a1:Bool} {a2:Int} (h0:aGp a0) (h2:-9223372036854775808≤a2∧a2≤9223372036854775807):∃K,iX K a0 a1 a2=some true:=by
 obtain⟨s,hs,hf,hl4,hm⟩:=aL9 h0 a1
 have hsb:=hs.sbd
 have hrl:=hs.rl
 have hll:=hs.ll
 have hn4:=hs.n4
 obtain⟨v4,b1,b2,b3⟩:=aBY (x:=a2) (m:=9) h2 (by omega)
 obtain⟨v8,c1,c2⟩:=aM7 (x:=a2) (y:=9) h2 (by omega)
 obtain⟨v10,d1,d2,d3⟩:=aBY (x:=v8) (m:=7) c2 (by omega)
 obtain⟨c,q1,q2,q3⟩:=aBa (k:=4) (p:=1+v4) (q:=1+v10) (by omega) (by omega) (by omega) (by omega)
 have hc:0<c:=by
  rw [q2,Rat.div_def]
  exact Rat.mul_pos (by exact_mod_cast (show(0:Int)<1+v4 by omega)) (Rat.inv_pos.2 (by exact_mod_cast (show(0:Int)<1+v10 by omega)))
 refine(?_:Ev (fun K=>iX K a0 a1 a2) true).get
 unfold iX
 refine Ev.bind hm ⟨7000,fun K hK=>?_⟩
 have hl:=aMZ (K-40)
 rw [show K-40+40=K by omega] at hl
 have h:=aID hsb (show s.rows.length≤8 by omega) hf
 have h8:∀j,j<s.dofs.length→Bd 8 (qK s.load j):=fun j hj=>hs.load _ (tP (by omega))
 have hsb':SB s.dofs (s.load.map (c*·)) s.v s.rows:=by
  refine {hsb with sf:=fun x hx=>?_,fl:=by rw [List.length_map];exact hsb.fl}
  obtain⟨y,hy,rfl⟩:=List.mem_map.1 hx
  exact(q3.mul (hl4 y hy)).mono (by omega)
 have hf':aAX s.dofs (s.load.map (c*·)) s.v s.rows=true:=by rw [aK7 (List.length_map _)];exact hf
 have h':=aID hsb' (show s.rows.length≤8 by omega) hf'
 have h8':∀j,j<s.dofs.length→Bd 8 (qK (s.load.map (c*·)) j):=fun j hj=>by
  rw [aE3]
  exact(q3.mul (hl4 _ (tP (by omega)))).mono (by omega)
 obtain⟨p1,_⟩:=aEe h hf (show s.rows.length≤5 by omega) h8 (show 6000≤K by omega)
 obtain⟨p2,_⟩:=aEe h' hf' (show s.rows.length≤5 by omega) h8' (show 6000≤K by omega)
 rw [aLt hc] at p2
 obtain⟨r1,r2,r3,r4⟩:=aNj h (show s.rows.length≤5 by omega) h8
 have l1:=aIW hl4 q3 (by omega) K s.load.length 0 K (by omega) (by omega)
 simp only [List.take_zero,List.map_nil,Int.natCast_zero] at l1
 generalize hP:aA7 s.dofs s.load s.v s.rows=P at *
 have l2:=aIS (c:=c) (v:=P) (w:=(P.1.map (c*·),P.2.1.map (fun p=>⟨c*p.n,c*p.f⟩),P.2.2)) rfl r1 (by omega) q3 r3 K P.1.length 0 K (by omega) (by omega)
 have l3:=aIy (c:=c) (v:=P) (w:=(P.1.map (c*·),P.2.1.map (fun p=>⟨c*p.n,c*p.f⟩),P.2.2)) rfl r2 (by omega) q3 r4 K P.2.1.length 0 K (by omega) (by omega)
 simp only [Int.natCast_zero] at l2 l3
 simp only [b1,oB,kD (show -9223372036854775808≤1+v4∧1+v4≤9223372036854775807 by omega),c1,d1,kD (show -9223372036854775808≤1+v10∧1+v10≤9223372036854775807 by omega),q1,l1,jK,p1,p2,nF (rfl:P.2.2=P.2.2),bN,List.length_map,nF (rfl:(P.1.length:Int)=P.1.length),nF (rfl:(P.2.1.length:Int)=P.2.1.length),l2,jJ,l3,jL,hl]
end Go.Proofs.YtcjdedkdoagifaaGreat
