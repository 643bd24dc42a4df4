/- Texts of the proof, part 7: XX XY XZ. -/
import Derived.Test.YtcjdedkdoagifaaGreatZ6
set_option linter.unusedVariables false
namespace Go.Proofs.YtcjdedkdoagifaaGreat
/-- The rows as they lie, and where. -/
def yC (G:Nat→Nat→Rat) (N:Nat):List (List Rat):=[]::mx G N N
def zD (N:Nat):List Nat:=mp (fun i=>i+1) N
theorem aAL {G:Nat→Nat→Rat} {N i:Nat} (h:i<N):(yC G N).getD (i+1) []=mp (G i) N:=by
 unfold yC mx
 rw [List.getD_eq_getElem?_getD,List.getElem?_cons_succ,aDj h];rfl
theorem aCo {G:Nat→Nat→Rat} {N i:Nat} {f:Nat→Rat}:(yC G N).set (i+1) (mp f N)=yC (vC G i f) N:=by
 unfold yC
 rw [List.set_cons_succ]
 unfold mx
 rw [aJd,aLa];rfl
theorem t6 {G H:Nat→Nat→Rat} {N:Nat} (h:∀i c,i<N→c<N→G i c=H i c):yC G N=yC H N:=by
 unfold yC;rw [aIg h]
theorem aKV {G:Nat→Nat→Rat} {N:Nat}:aFC (yC G N) (zD N)=mx G N N:=by
 unfold aFC zD mp mx
 rw [List.map_map]
 unfold mp
 refine List.map_congr_left fun i hi=>?_
 exact aAL (List.mem_range.1 hi)
theorem rdO {N i:Nat} (h:i<N):dC (zD N) (i:Int)=some (i+1):=sN h
theorem aIF {v:List Rat} {l:List aH} {m:Nat} (hm:m≤100) (K:Nat):∀(t i k:Nat),i+t=off v l m→t<k→fR K ((wT v l m).map pu) (mp (fun _=>(0:Nat)) (off v l m)) k (mp (fun j=>if j<i then j+1 else 0) (off v l m)) ([]::mx (fun _=>z0) i (off v l m)) (i:Int)=some (zD (off v l m),yC (fun _=>z0) (off v l m))
 |0,i,k,hi,hk=>by
  obtain⟨k',rfl,_⟩:=cU hk
  have e:i=off v l m:=by omega
  subst e
  simp only [fR,tG,dF (show¬(off v l m:Int)<(off v l m:Int) by omega),dS]
  have:mp (fun j=>if j<off v l m then j+1 else 0) (off v l m)=zD (off v l m):=hY fun j hj=>if_pos hj
  rw [this];rfl
 |t+1,i,k,hi,hk=>by
  obtain⟨k',rfl,_⟩:=cU hk
  have hil:i<off v l m:=by omega
  have h4:=sU (v:=v) (l:=l) m
  have e0:([]::mx (fun _=>z0) i (off v l m)).length=i+1:=by rw [List.length_cons,aCm]
  have e1:qC (mp (fun j=>if j<i then j+1 else 0) (off v l m)) (i:Int) (i+1)=some (mp (fun j=>if j<i+1 then j+1 else 0) (off v l m)):=by
   rw [y8 hil]
   congr 1
   refine hY fun j _=>?_
   by_cases e:j=i
   ·subst e;rw [lF,if_pos (by omega)]
   ·rw [sX e]
    by_cases hlt:j<i
    ·rw [if_pos hlt,if_pos (by omega)]
    ·rw [if_neg hlt,if_neg (by omega)]
  have e2:([]::mx (fun _=>z0) i (off v l m))++[mp (fun _=>(0:Rat)) (off v l m)]=[]::mx (fun _=>z0) (i+1) (off v l m):=by
   show []::(mx (fun _=>z0) i (off v l m)++_)=_
   unfold mx
   rw [aEm];rfl
  simp only [fR,tG,dT (show(i:Int)<(off v l m:Int) by omega),d8,wZ,aD6 (z:=(0:Rat)) (n:=off v l m) (by omega),oB,sN (f:=fun j=>if j<i then j+1 else 0) hil,e0,e1,e2,tI (i:=i) (by omega)]
  exact aIF hm K t (i+1) k' (by omega) (by omega)
theorem aIP {g:Nat→Rat} {N i:Nat} {w:Rat} (h:i<N):gO (mp g N) (i:Int) w=some (mp (vC g i w) N):=by
 simp only [gO,sN (f:=g) h,y8 (f:=g) h,oB]
theorem aKK {w:Nat→Rat} {N i:Nat}:mp (vC (fun j=>if j<i then w j else 0) i (w i)) N=mp (fun j=>if j<i+1 then w j else 0) N:=hY fun j _=>by
 by_cases e:j=i
 ·subst e;rw [lF,if_pos (by omega)]
 ·rw [sX e]
  by_cases hlt:j<i
  ·rw [if_pos hlt,if_pos (by omega)]
  ·rw [if_neg hlt,if_neg (by omega)]
theorem aLM {w:Nat→Rat} {N i:Nat} (h:w i=0):mp (fun j=>if j<i then w j else 0) N=mp (fun j=>if j<i+1 then w j else 0) N:=hY fun j _=>by
 by_cases e:j=i
 ·subst e;rw [if_neg (by omega),if_pos (by omega),h]
 ·by_cases hlt:j<i
  ·rw [if_pos hlt,if_pos (by omega)]
  ·rw [if_neg hlt,if_neg (by omega)]
theorem rv0 {v:List Rat} {l:List aH} {a:List Rat} {r q k:Nat} (hq:vq v l r q) (hr:r<l.length) (hk:k=off v l r+q):rv v l a k=if q=0 then rt (pK l r).j a else if q=1 then rt (pK l r).t a else if q=2 then -(rt (pK l r).t a) else 0:=by
 unfold rv;rw [hk,aGM hq hr]
theorem aIv {d:List aT} {f v a:List Rat} {l:List aH} {B:Nat} (hl:RsC l) (ha:vV B a) (hB:B≤10000000) (hn:l.length≤100) {K:Nat} (hK:13≤K):∀(t k fu:Nat),k+t=off v l l.length→t<fu→cT K a ((wT v l l.length).map pu) ⟨d,f,v,l⟩ fu (mp (fun j=>if j<k then rv v l a j else 0) (off v l l.length)) (k:Int)=some (mp (rv v l a) (off v l l.length))
 |0,k,fu,hi,hk=>by
  obtain⟨k',rfl,_⟩:=cU hk
  have e:k=off v l l.length:=by omega
  subst e
  simp only [cT,wZ,dF (show¬(off v l l.length:Int)<(off v l l.length:Int) by omega),dS]
  exact congrArg some (hY fun j hj=>if_pos hj)
 |t+1,k,fu,hi,hk=>by
  obtain⟨k',rfl,_⟩:=cU hk
  have hkl:k<off v l l.length:=by omega
  have h4:=sU (v:=v) (l:=l) l.length
  obtain⟨r,q,h1,h2,h3⟩:=u8 l.length k hkl
  have hq3:=vq3 h2
  have hu:=rdU (m:=l.length) h2 h1
  rw [←h3] at hu
  have hr:=hl _ (uG h1)
  have hrv:=rv0 (a:=a) h2 h1 h3
  have ih:=aIv (d:=d) (f:=f) (v:=v) hl ha hB hn hK t (k+1) k' (by omega) (by omega)
  have bt:=z9 ha hr.1.2
  simp only [cT,wZ,dT (show(k:Int)<(off v l l.length:Int) by omega),d8,hu,oB,aB5 h1]
  have hcase:q=0∨q=1∨q=2∨q=3:=by omega
  rcases hcase with rfl|rfl|rfl|rfl
  ·have e:rv v l a k=rt (pK l r).j a:=hrv
   simp only [qT (show((0:Nat):Int)=0 from rfl),d8,wP ha (by omega) hr.1.1 hK,oB,aIP (g:=fun j=>if j<k then rv v l a j else 0) hkl,tI (i:=k) (by omega)]
   rw [←e,aKK];exact ih
  ·have e:rv v l a k=rt (pK l r).t a:=hrv
   simp only [qF (show((1:Nat):Int)≠0 by omega),qT (show((1:Nat):Int)=1 from rfl),dS,d8,wP ha (by omega) hr.1.2 hK,oB,aIP (g:=fun j=>if j<k then rv v l a j else 0) hkl,tI (i:=k) (by omega)]
   rw [←e,aKK];exact ih
  ·have e:rv v l a k=-(rt (pK l r).t a):=hrv
   simp only [qF (show((2:Nat):Int)≠0 by omega),qF (show((2:Nat):Int)≠1 by omega),qT (show((2:Nat):Int)=2 from rfl),dS,d8,wP ha (by omega) hr.1.2 hK,oB,aEE bt (by omega),aIP (g:=fun j=>if j<k then rv v l a j else 0) hkl,tI (i:=k) (by omega)]
   rw [←e,aKK];exact ih
  ·have e:rv v l a k=0:=hrv
   simp only [qF (show((3:Nat):Int)≠0 by omega),qF (show((3:Nat):Int)≠1 by omega),qF (show((3:Nat):Int)≠2 by omega),dS,oB,tI (i:=k) (by omega)]
   rw [aLM e];exact ih
def adc (G:Nat→Nat→Rat) (k:Nat) (w:Nat→Rat) (t i c:Nat):Rat:=if c=k∧i<t then G i c+w i else G i c
theorem aIf {G:Nat→Nat→Rat} {N i k BG BW:Nat} {w:Rat} (hi:i<N) (hk:k<N) (hG:Bd BG (G i k)) (hw:Bd BW w) (h1:BG≤1073741824) (h2:BW≤1073741824):gQ (zD N,yC G N) (k:Int) (i:Int) w=some (zD N,yC (vC G i (vC (G i) k (G i k+w))) N):=by
 simp only [gQ,rdO hi,oB,aAL hi,sN (f:=G i) hk,vS hG hw h1 h2,y8 (f:=G i) hk,aCo]
theorem aCN {G:Nat→Nat→Rat} {k t N:Nat} {w:Nat→Rat}:yC (vC (adc G k w t) t (vC (adc G k w t t) k (adc G k w t t k+w t))) N=yC (adc G k w (t+1)) N:=t6 fun i c _ _=>by
 by_cases e:i=t
 ·subst e
  rw [lF]
  by_cases h:c=k
  ·subst h
   rw [lF]
   unfold adc
   rw [if_neg (by omega),if_pos ⟨rfl,by omega⟩]
  ·rw [sX h]
   unfold adc
   rw [if_neg (fun h2=>h h2.1),if_neg (fun h2=>h h2.1)]
 ·rw [sX e]
  unfold adc
  by_cases h:c=k∧i<t
  ·rw [if_pos h,if_pos ⟨h.1,by omega⟩]
  ·rw [if_neg h,if_neg fun h2=>h ⟨h2.1,by omega⟩]
theorem aIB {G:Nat→Nat→Rat} {k t N:Nat} {w:Nat→Rat} (h0:w t=0):yC (adc G k w t) N=yC (adc G k w (t+1)) N:=t6 fun i c _ _=>by
 unfold adc
 by_cases h:c=k∧i<t
 ·rw [if_pos h,if_pos ⟨h.1,by omega⟩]
 ·rw [if_neg h]
  by_cases h2:c=k∧i<t+1
  ·have:i=t:=by
    by_cases e:i=t
    ·exact e
    ·exact absurd ⟨h2.1,by omega⟩ h
   rw [if_pos h2,this,h0,Rat.add_zero]
  ·rw [if_neg h2]
theorem aIW {d:List aT} {f v a:List Rat} {l:List aH} {G:Nat→Nat→Rat} {c B BG:Nat} (hl:RsC l) (ha:vV B a) (hB:B≤10000000) (hn:l.length≤100) (hc:c<off v l l.length) (hG:∀i,i<off v l l.length→Bd BG (G i c)) (hBG:BG≤1073741824) {K:Nat} (hK:13≤K):∀(t k fu:Nat),k+t=off v l l.length→t<fu→cV K a (c:Int) ((wT v l l.length).map pu) ⟨d,f,v,l⟩ fu (zD (off v l l.length)) (yC (adc G c (rv v l a) k) (off v l l.length)) (k:Int)=some (zD (off v l l.length),yC (adc G c (rv v l a) (off v l l.length)) (off v l l.length))
 |0,k,fu,hi,hk=>by
  obtain⟨k',rfl,_⟩:=cU hk
  have e:k=off v l l.length:=by omega
  subst e
  simp only [cV,wZ,dF (show¬(off v l l.length:Int)<(off v l l.length:Int) by omega),dS]
 |t+1,k,fu,hi,hk=>by
  obtain⟨k',rfl,_⟩:=cU hk
  have hkl:k<off v l l.length:=by omega
  have h4:=sU (v:=v) (l:=l) l.length
  obtain⟨r,q,h1,h2,h3⟩:=u8 l.length k hkl
  have hq3:=vq3 h2
  have hu:=rdU (m:=l.length) h2 h1
  rw [←h3] at hu
  have hr:=hl _ (uG h1)
  have hrv:=rv0 (a:=a) h2 h1 h3
  have ih:=aIW (d:=d) (f:=f) hl ha hB hn hc hG hBG hK t (k+1) k' (by omega) (by omega)
  have bj:=z9 ha hr.1.1
  have bt:=z9 ha hr.1.2
  have hGk:Bd BG (adc G c (rv v l a) k k c):=by unfold adc;rw [if_neg (by omega)];exact hG k hkl
  simp only [cV,wZ,dT (show(k:Int)<(off v l l.length:Int) by omega),d8,hu,oB,aB5 h1]
  have hcase:q=0∨q=1∨q=2∨q=3:=by omega
  rcases hcase with rfl|rfl|rfl|rfl
  ·have e:rv v l a k=rt (pK l r).j a:=hrv
   simp only [qT (show((0:Nat):Int)=0 from rfl),d8,wP ha (by omega) hr.1.1 hK,oB,aIf hkl hc hGk bj hBG (by omega),tI (i:=k) (by omega)]
   rw [←e,aCN];exact ih
  ·have e:rv v l a k=rt (pK l r).t a:=hrv
   simp only [qF (show((1:Nat):Int)≠0 by omega),qT (show((1:Nat):Int)=1 from rfl),dS,d8,wP ha (by omega) hr.1.2 hK,oB,aIf hkl hc hGk bt hBG (by omega),tI (i:=k) (by omega)]
   rw [←e,aCN];exact ih
  ·have e:rv v l a k=-(rt (pK l r).t a):=hrv
   simp only [qF (show((2:Nat):Int)≠0 by omega),qF (show((2:Nat):Int)≠1 by omega),qT (show((2:Nat):Int)=2 from rfl),dS,d8,wP ha (by omega) hr.1.2 hK,oB,aEE bt (by omega),aIf hkl hc hGk bt.neg hBG (by omega),tI (i:=k) (by omega)]
   rw [←e,aCN];exact ih
  ·have e:rv v l a k=0:=hrv
   simp only [qF (show((3:Nat):Int)≠0 by omega),qF (show((3:Nat):Int)≠1 by omega),qF (show((3:Nat):Int)≠2 by omega),dS,oB,tI (i:=k) (by omega)]
   rw [aIB e];exact ih
theorem aLL {d:List aT} {f v a:List Rat} {l:List aH} {G:Nat→Nat→Rat} {c B BG:Nat} (hl:RsC l) (ha:vV B a) (hB:B≤10000000) (hn:l.length≤100) (hc:c<off v l l.length) (hG:∀i,i<off v l l.length→Bd BG (G i c)) (hBG:BG≤1073741824) {K:Nat} (hK:5000≤K):dG K a (c:Int) ((wT v l l.length).map pu) ⟨d,f,v,l⟩ (zD (off v l l.length)) (yC G (off v l l.length))=some (zD (off v l l.length),yC (adc G c (rv v l a) (off v l l.length)) (off v l l.length)):=by
 have h4:=sU (v:=v) (l:=l) l.length
 have e:yC (adc G c (rv v l a) 0) (off v l l.length)=yC G (off v l l.length):=t6 fun i c' _ _=>if_neg (by omega)
 have:=aIW (d:=d) (f:=f) hl ha hB hn hc hG hBG (K:=K) (by omega) (off v l l.length) 0 K (by omega) (by omega)
 rw [e] at this
 simp only [Int.natCast_zero] at this
 simp only [dG,this,oB,jX]
theorem uD {v:List Rat} {l:List aH} {r q r' q':Nat} (h:vq v l r q) (h':vq v l r' q'):ek (off v l r+q) (off v l r'+q')=if r'=r∧q'=q then 1 else 0:=by
 unfold ek
 by_cases e:r'=r∧q'=q
 ·rw [if_pos e,e.1,e.2,lF]
 ·rw [if_neg e,sX fun h3=>e (aEK h' h h3)];rfl
theorem aGE {v:List Rat} {l:List aH} {z:Nat→Rat} {i:Nat} (h0:z (off v l i)=0) (h1:stk v (pK l i)=true→z (off v l i+1)=0∧z (off v l i+2)=0):pz v l z i=⟨0,0⟩:=by
 unfold pz
 rw [h0]
 split
 ·rfl
 ·rename_i ht
  split
  ·rw [Rat.mul_zero,Rat.mul_zero]
  ·rename_i hs
   have hst:stk v (pK l i)=true:=by
    unfold stk
    rw [decide_eq_true (show 0<(pK l i).t.length by omega),decide_eq_true (show(rt (pK l i).t v).num.sign=0 from Decidable.of_not_not hs)];rfl
   rw [(h1 hst).1,(h1 hst).2,Rat.sub_self]
theorem aFf {v:List Rat} {l:List aH} {r q i:Nat} (h:vq v l r q) (hi:i≠r):pz v l (ek (off v l r+q)) i=⟨0,0⟩:=
 aGE (by have:=uD h (r':=i) (q':=0) (.inl rfl);rw [Nat.add_zero] at this;rw [this,if_neg fun h=>hi h.1]) fun hs=>
  ⟨by rw [uD h (.inr ⟨hs,by omega⟩),if_neg fun h=>hi h.1],by rw [uD h (.inr ⟨hs,by omega⟩),if_neg fun h=>hi h.1]⟩
theorem aIb {v:List Rat} {l:List aH} {r q:Nat} {x:aO} (h:vq v l r q) (hx:pz v l (ek (off v l r+q)) r=x):mp (vC p0 r x) l.length=mp (pz v l (ek (off v l r+q))) l.length:=hY fun i _=>by
 by_cases e:i=r
 ·rw [e,lF,hx]
 ·rw [sX e,aFf h e];rfl
theorem aJp {v:List Rat} {r:aH} (h:stk v r=true):r.t.length≠0∧(rt r.t v).num.sign=0:=by
 unfold stk at h
 rw [Bool.and_eq_true] at h
 have h1:=of_decide_eq_true h.1
 exact⟨by omega,of_decide_eq_true h.2⟩
def bc (v:List Rat) (l:List aH) (k:Nat) (i:Nat):Rat:=zv v l (ek k) i
theorem zv0 {v:List Rat} {l:List aH} {z:Nat→Rat} {r q k:Nat} (hq:vq v l r q) (hr:r<l.length) (hk:k=off v l r+q):zv v l z k=if q=0 then 0 else if q=1 then z (k+2) else if q=2 then z (k+1) else(pK l r).mu*z (k-3)-(z (k-2)+z (k-1)):=by
 unfold zv;rw [hk,aGM hq hr]
theorem vqs {v:List Rat} {l:List aH} {r q p:Nat} (h:vq v l r q) (hq:q≠0) (hp:p≤3):vq v l r p:=by
 rcases h with h|h
 ·exact absurd h hq
 ·exact .inr ⟨h.1,hp⟩
theorem aEW {v:List Rat} {l:List aH} {r q r' q':Nat} (h:vq v l r q) (h':vq v l r' q') (hr':r'<l.length):zv v l (ek (off v l r+q)) (off v l r'+q')=if q'=0 then 0 else if q'=1 then(if r'=r∧3=q then 1 else 0) else if q'=2 then(if r'=r∧3=q then 1 else 0) else(pK l r').mu*(if r'=r∧0=q then 1 else 0)-((if r'=r∧1=q then 1 else 0)+(if r'=r∧2=q then 1 else 0)):=by
 rw [zv0 h' hr' rfl]
 have hq3:=vq3 h'
 have hcase:q'=0∨q'=1∨q'=2∨q'=3:=by omega
 rcases hcase with rfl|rfl|rfl|rfl
 ·rfl
 ·show ek _ (off v l r'+3)=_
  rw [uD h (vqs h' (by omega) (by omega))];rfl
 ·show ek _ (off v l r'+3)=_
  rw [uD h (vqs h' (by omega) (by omega))];rfl
 ·show(pK l r').mu*ek _ (off v l r'+0)-(ek _ (off v l r'+1)+ek _ (off v l r'+2))=_
  rw [uD h (vqs h' (by omega) (by omega)),uD h (vqs h' (by omega) (by omega)),uD h (vqs h' (by omega) (by omega))];rfl
theorem aCY {v:List Rat} {l:List aH} {g:Nat→Rat} {x:Rat} {r q r' q':Nat} (h:vq v l r q) (h':vq v l r' q'):vC g (off v l r+q) x (off v l r'+q')=if r'=r∧q'=q then x else g (off v l r'+q'):=by
 by_cases e:r'=r∧q'=q
 ·rw [if_pos e,e.1,e.2,lF]
 ·rw [if_neg e,sX fun h3=>e (aEK h' h h3)]
theorem aLA {v:List Rat} {l:List aH} {r i:Nat} (hs:stk v (pK l r)=true) (hi:i<off v l l.length):bc v l (off v l r) i=vC z0 (off v l r+3) (pK l r).mu i:=by
 obtain⟨r',q',h1,h2,rfl⟩:=u8 l.length i hi
 have hq3:=vq3 h2
 have:=aEW (v:=v) (l:=l) (r:=r) (q:=0) (.inl rfl) h2 h1
 rw [Nat.add_zero] at this
 unfold bc
 rw [this,aCY (.inr ⟨hs,by omega⟩) h2]
 have hcase:q'=0∨q'=1∨q'=2∨q'=3:=by omega
 rcases hcase with rfl|rfl|rfl|rfl
 ·simp [z0]
 ·simp [z0]
 ·simp [z0]
 ·by_cases e:r'=r
  ·subst e;simp [Rat.sub_eq_add_neg,Rat.add_zero,Rat.zero_add,Rat.neg_zero,Rat.mul_zero,Rat.mul_one]
  ·simp [e,z0,Rat.sub_eq_add_neg,Rat.add_zero,Rat.zero_add,Rat.neg_zero,Rat.mul_zero,Rat.mul_one]
theorem aKZ {v:List Rat} {l:List aH} {r i:Nat} (hs:stk v (pK l r)=false) (hi:i<off v l l.length):bc v l (off v l r) i=0:=by
 obtain⟨r',q',h1,h2,rfl⟩:=u8 l.length i hi
 have hq3:=vq3 h2
 have:=aEW (v:=v) (l:=l) (r:=r) (q:=0) (.inl rfl) h2 h1
 rw [Nat.add_zero] at this
 unfold bc
 rw [this]
 have hcase:q'=0∨q'=1∨q'=2∨q'=3:=by omega
 rcases hcase with rfl|rfl|rfl|rfl
 ·simp
 ·simp
 ·simp
 ·have e:r'≠r:=fun e=>by
   rcases h2 with h|h
   ·omega
   ·rw [e,hs] at h;exact absurd h.1 (by decide)
  simp [e,Rat.sub_eq_add_neg,Rat.add_zero,Rat.zero_add,Rat.neg_zero,Rat.mul_zero,Rat.mul_one]
theorem aLH {v:List Rat} {l:List aH} {r i:Nat} (h:vq v l r 1) (hi:i<off v l l.length):bc v l (off v l r+1) i=vC z0 (off v l r+3) (-1) i:=by
 obtain⟨r',q',h1,h2,rfl⟩:=u8 l.length i hi
 have hq3:=vq3 h2
 unfold bc
 rw [aEW h h2 h1,aCY (vqs h (by omega) (by omega)) h2]
 have hcase:q'=0∨q'=1∨q'=2∨q'=3:=by omega
 rcases hcase with rfl|rfl|rfl|rfl
 ·simp [z0]
 ·simp [z0]
 ·simp [z0]
 ·by_cases e:r'=r
  ·subst e;simp [Rat.sub_eq_add_neg,Rat.add_zero,Rat.zero_add,Rat.neg_zero,Rat.mul_zero,Rat.mul_one]
  ·simp [e,z0,Rat.sub_eq_add_neg,Rat.add_zero,Rat.zero_add,Rat.neg_zero,Rat.mul_zero,Rat.mul_one]
theorem aLF {v:List Rat} {l:List aH} {r i:Nat} (h:vq v l r 2) (hi:i<off v l l.length):bc v l (off v l r+2) i=vC z0 (off v l r+3) (-1) i:=by
 obtain⟨r',q',h1,h2,rfl⟩:=u8 l.length i hi
 have hq3:=vq3 h2
 unfold bc
 rw [aEW h h2 h1,aCY (vqs h (by omega) (by omega)) h2]
 have hcase:q'=0∨q'=1∨q'=2∨q'=3:=by omega
 rcases hcase with rfl|rfl|rfl|rfl
 ·simp [z0]
 ·simp [z0]
 ·simp [z0]
 ·by_cases e:r'=r
  ·subst e;simp [Rat.sub_eq_add_neg,Rat.add_zero,Rat.zero_add,Rat.neg_zero,Rat.mul_zero,Rat.mul_one]
  ·simp [e,z0,Rat.sub_eq_add_neg,Rat.add_zero,Rat.zero_add,Rat.neg_zero,Rat.mul_zero,Rat.mul_one]
theorem aLB {v:List Rat} {l:List aH} {r i:Nat} (h:vq v l r 3) (hi:i<off v l l.length):bc v l (off v l r+3) i=vC (vC z0 (off v l r+1) 1) (off v l r+2) 1 i:=by
 obtain⟨r',q',h1,h2,rfl⟩:=u8 l.length i hi
 have hq3:=vq3 h2
 unfold bc
 rw [aEW h h2 h1,aCY (vqs h (by omega) (by omega)) h2,aCY (vqs h (by omega) (by omega)) h2]
 have hcase:q'=0∨q'=1∨q'=2∨q'=3:=by omega
 rcases hcase with rfl|rfl|rfl|rfl
 ·simp [z0]
 ·by_cases e:r'=r<;>simp [e,z0]
 ·by_cases e:r'=r<;>simp [e,z0]
 ·simp [z0,Rat.sub_eq_add_neg,Rat.add_zero,Rat.zero_add,Rat.neg_zero,Rat.mul_zero,Rat.mul_one]
end Go.Proofs.YtcjdedkdoagifaaGreat
set_option linter.unusedVariables false
namespace Go.Proofs.YtcjdedkdoagifaaGreat
def zB (G:Nat→Nat→Rat) (k:Nat) (b:Nat→Rat) (i c:Nat):Rat:=if c=k then b i else G i c
def gk (M:Nat→Nat→Rat) (k i c:Nat):Rat:=if c<k then M i c else 0
theorem aA9 {M:Nat→Nat→Rat} {k:Nat}:zB (gk M k) k z0=gk M k:=by
 funext i c
 unfold zB gk z0
 by_cases h:c=k
 ·rw [if_pos h,if_neg (by omega)]
 ·rw [if_neg h]
theorem aJz {G:Nat→Nat→Rat} {k i:Nat} {b:Nat→Rat}:zB G k b i k=b i:=if_pos rfl
theorem aBA {G:Nat→Nat→Rat} {k j N:Nat} {b:Nat→Rat} {x:Rat}:yC (vC (zB G k b) j (vC (zB G k b j) k x)) N=yC (zB G k (vC b j x)) N:=t6 fun i c _ _=>by
 by_cases e:i=j
 ·subst e
  rw [lF]
  by_cases h:c=k
  ·subst h;rw [lF];unfold zB;rw [if_pos rfl,lF]
  ·rw [sX h];unfold zB;rw [if_neg h,if_neg h]
 ·rw [sX e]
  unfold zB
  by_cases h:c=k
  ·rw [if_pos h,if_pos h,sX e]
  ·rw [if_neg h,if_neg h]
theorem aKN {M:Nat→Nat→Rat} {k N:Nat} {b w:Nat→Rat} (h:∀i,i<N→M i k=b i+w i):yC (adc (zB (gk M k) k b) k w N) N=yC (gk M (k+1)) N:=t6 fun i c hi _=>by
 unfold adc zB gk
 by_cases e:c=k
 ·subst e;rw [if_pos ⟨rfl,hi⟩,if_pos rfl,if_pos (by omega),h i hi]
 ·rw [if_neg fun h2=>e h2.1,if_neg e]
  by_cases e2:c<k
  ·rw [if_pos e2,if_pos (by omega)]
  ·rw [if_neg e2,if_neg (by omega)]
theorem aJF {M:Nat→Nat→Rat} {k N:Nat} {b:Nat→Rat} (h:∀i,i<N→M i k=b i):yC (zB (gk M k) k b) N=yC (gk M (k+1)) N:=t6 fun i c hi _=>by
 unfold zB gk
 by_cases e:c=k
 ·subst e;rw [if_pos rfl,if_pos (by omega),h i hi]
 ·rw [if_neg e]
  by_cases e2:c<k
  ·rw [if_pos e2,if_pos (by omega)]
  ·rw [if_neg e2,if_neg (by omega)]
theorem aCj {d:List aT} {f v:List Rat} {l:List aH} (h:ScB d f v l) {k:Nat} (hk:k<off v l l.length) {b:Nat→Rat} (hb:∀i,i<off v l l.length→bc v l k i=b i) (hbb:∀i,Bd 8 (b i)) {K:Nat} (hK:5000≤K):
  cD K ⟨d,f,v,l⟩ (mp z0 d.length) (mp (pz v l (ek k)) l.length)=some (mp (acc d z0 l (pz v l (ek k))) d.length)∧
  dG K (mp (acc d z0 l (pz v l (ek k))) d.length) (k:Int) ((wT v l l.length).map pu) ⟨d,f,v,l⟩ (zD (off v l l.length)) (yC (zB (gk (Mf d v l) k) k b) (off v l l.length))=some (zD (off v l l.length),yC (gk (Mf d v l) (k+1)) (off v l l.length)):=by
 have h8:=h.m8
 have hn:=h.n8
 have hp:=aJq (l:=l) (v:=v) (z:=ek k) (C:=1) (fun k _=>aGO) h.sb.sl
 have hrb:RsB l:=fun r hr=>(h.sb.sl r hr).1
 have hc:(2*1+11+9)*24*l.length≤400000000:=Nat.le_trans (bd8 (C:=1) (Nat.le_refl 1) h8) (by decide)
 have hz:∀j,j<d.length→Bd 1 (z0 j):=fun j _=>Bd.zero
 have hbd:=aEA (p:=pz v l (ek k)) h.sb.sd hz hrb h.ir hp (by omega) (by omega) (by omega) hc
 refine⟨aHl (p:=pz v l (ek k)) h.sb.sd (by omega) hz hrb h.ir (by omega) hp (by omega) hc (by omega),?_⟩
 have e:=aLL (d:=d) (f:=f) (G:=zB (gk (Mf d v l) k) k b) (c:=k) (BG:=8) h.sb.sl hbd (by unfold aIo;omega) (by omega) hk (fun i hi=>by rw [aJz];exact hbb i) (by omega) hK
 rw [e,aKN fun i hi=>?_]
 rw [←hb i hi]
 exact Rat.add_comm _ _
theorem aHR {x:List aO} (hn:x.length≤60000000000):nV x=some x:=by
 unfold nV
 rw [wD (by simp;omega)];rfl
theorem aEz {j:Nat} {x:Rat} (h:Bd 8 x):∀i,Bd 8 (vC z0 j x i):=fun i=>by
 by_cases e:i=j
 ·rw [e,lF];exact h
 ·rw [sX e];exact Bd.zero.mono (by omega)
theorem aGC:Bd 8 (-1:Rat):=(show Bd 1 (-1:Rat) by constructor<;>decide).mono (by omega)
theorem aJb:Bd 8 (1:Rat):=(show Bd 1 (1:Rat) by constructor<;>decide).mono (by omega)
theorem aHh:aBw 1=some (-1:Rat):=aEE aJb (by omega)
theorem aLj {v:List Rat} {l:List aH} {r:Nat}:pz v l (ek (off v l r)) r=⟨1,if(pK l r).t.length=0 then 0 else(((-(rt (pK l r).t v).num.sign:Int):Rat)/((1:Int):Rat))*((pK l r).mu*1)⟩:=by
 have h0:ek (off v l r) (off v l r)=1:=lF
 have hv0:vq v l r 0:=.inl rfl
 unfold pz
 rw [h0]
 by_cases ht:(pK l r).t.length=0
 ·rw [if_pos ht,if_pos ht]
 ·rw [if_neg ht,if_neg ht]
  by_cases hs:(rt (pK l r).t v).num.sign=0
  ·have hst:stk v (pK l r)=true:=by
    unfold stk;rw [decide_eq_true (show 0<(pK l r).t.length by omega),decide_eq_true hs];rfl
   have e1:=uD hv0 (r':=r) (q':=1) (.inr ⟨hst,by omega⟩)
   have e2:=uD hv0 (r':=r) (q':=2) (.inr ⟨hst,by omega⟩)
   rw [Nat.add_zero] at e1 e2
   rw [if_neg (fun h=>h hs),e1,e2,hs]
   have z:((-(0:Int):Int):Rat)/((1:Int):Rat)=0:=by decide+kernel
   rw [z,Rat.zero_mul]
   simp [Rat.sub_self]
  ·rw [if_pos hs]
theorem aLl {v:List Rat} {l:List aH} {r:Nat} (h:vq v l r 1):pz v l (ek (off v l r+1)) r=⟨0,1⟩:=by
 have hst:stk v (pK l r)=true:=by rcases h with h|h;omega;exact h.1
 obtain⟨s1,s2⟩:=aJp hst
 have e0:ek (off v l r+1) (off v l r)=if r=r∧0=1 then 1 else 0:=uD h (r':=r) (q':=0) (.inl rfl)
 unfold pz
 rw [if_neg s1,if_neg (fun h=>h s2),e0,uD h (r':=r) (q':=1) h,uD h (r':=r) (q':=2) (vqs h (by omega) (by omega))]
 simp [Rat.sub_eq_add_neg,Rat.add_zero,Rat.neg_zero]
theorem aLN {v:List Rat} {l:List aH} {r:Nat} (h:vq v l r 2):pz v l (ek (off v l r+2)) r=⟨0,-1⟩:=by
 have hst:stk v (pK l r)=true:=by rcases h with h|h;omega;exact h.1
 obtain⟨s1,s2⟩:=aJp hst
 have e0:ek (off v l r+2) (off v l r)=if r=r∧0=2 then 1 else 0:=uD h (r':=r) (q':=0) (.inl rfl)
 unfold pz
 rw [if_neg s1,if_neg (fun h=>h s2),e0,uD h (r':=r) (q':=1) (vqs h (by omega) (by omega)),uD h (r':=r) (q':=2) h]
 simp [Rat.sub_eq_add_neg,Rat.zero_add]
theorem aLC {d:List aT} {v:List Rat} {l:List aH} {r i:Nat} (h:vq v l r 3):Mf d v l i (off v l r+3)=bc v l (off v l r+3) i:=by
 unfold Mf bc
 have e:∀r',r'<l.length→pz v l (ek (off v l r+3)) r'=p0 r':=fun r' _=>by
  by_cases e:r'=r
  ·subst e
   have e0:ek (off v l r'+3) (off v l r')=if r'=r'∧0=3 then 1 else 0:=uD h (r':=r') (q':=0) (.inl rfl)
   refine aGE (by rw [e0,if_neg (by omega)]) fun hs=>⟨?_,?_⟩
   ·rw [uD h (r':=r') (q':=1) (vqs h (by omega) (by omega)),if_neg (by omega)]
   ·rw [uD h (r':=r') (q':=2) (vqs h (by omega) (by omega)),if_neg (by omega)]
  ·exact aFf h e
 rw [aDA e,aJa,aJ4,Rat.zero_add]
theorem aF6 {d:List aT} {f v:List Rat} {l:List aH} {r:aH} {x:Rat} {C:Nat} (hv:vV 64 v) (hr:RC r) (hx:Bd C x) (hC:C≤500000000) {K:Nat} (hK:13≤K):kM K ⟨d,f,v,l⟩ r x=some ((((-(rt r.t v).num.sign:Int):Rat)/((1:Int):Rat))*(r.mu*x)):=by
 have hb:=aI9 (rt r.t v)
 simp only [kM,aGD hv hr.1 hK,oB,oA (show -9223372036854775808≤-(rt r.t v).num.sign∧_ by omega),(qsg _).1,tP hr.2 hx (by omega) (by omega),tP (qsg (rt r.t v)).2 (hr.2.mul hx) (by omega) (by omega)]
theorem aG5 {d:List aT} {f v:List Rat} {l:List aH} (h:ScB d f v l) {K:Nat} (hK:5000≤K):∀(t k fu:Nat),k+t=off v l l.length→t<fu→bZ K ⟨d,f,v,l⟩ ((wT v l l.length).map pu) (mp p0 l.length) 1 fu (zD (off v l l.length)) (yC (gk (Mf d v l) k) (off v l l.length)) (k:Int)=some (zD (off v l l.length),yC (gk (Mf d v l) (off v l l.length)) (off v l l.length))
 |0,k,fu,hi,hk=>by
  obtain⟨k',rfl,_⟩:=cU hk
  have e:k=off v l l.length:=by omega
  rw [e]
  simp only [bZ,wZ,dF (show¬(off v l l.length:Int)<(off v l l.length:Int) by omega),dS]
 |t+1,k,fu,hi,hk=>by
  obtain⟨k',rfl,_⟩:=cU hk
  have hkl:k<off v l l.length:=by omega
  have h8:=h.m8
  have hn:=h.n8
  have h4:=sU (v:=v) (l:=l) l.length
  obtain⟨r,q,h1,h2,h3⟩:=u8 l.length k hkl
  have hq3:=vq3 h2
  have hu:=rdU (m:=l.length) h2 h1
  rw [←h3] at hu
  have hr:=h.sb.sl _ (uG h1)
  have ih:=aG5 h hK t (k+1) k' (by omega) (by omega)
  have hcl:=aHR (x:=mp p0 l.length) (by rw [tG];omega)
  have hz:vK ((d.length:Nat):Int) (0:Rat)=some (mp z0 d.length):=aD6 (by omega)
  have c3:bW ((k:Int)+3)=some ((k+3:Nat):Int):=by rw [oA (by omega)];rfl
  have hcase:q=0∨q=1∨q=2∨q=3:=by omega
  rcases hcase with rfl|rfl|rfl|rfl
  ·have hk0:k=off v l r:=h3
   have hpk:=aIb (x:=⟨1,if(pK l r).t.length=0 then 0 else(((-(rt (pK l r).t v).num.sign:Int):Rat)/((1:Int):Rat))*((pK l r).mu*1)⟩) (r:=r) h2 (by rw [Nat.add_zero];exact aLj)
   rw [Nat.add_zero,←hk0] at hpk
   have key:eI K ⟨d,f,v,l⟩ ((wT v l l.length).map pu) (zD (off v l l.length)) (yC (gk (Mf d v l) k) (off v l l.length)) (k:Int) ⟨(r:Int),0⟩ (pK l r) (bZ K ⟨d,f,v,l⟩ ((wT v l l.length).map pu) (mp p0 l.length) 1 k') (mp (pz v l (ek k)) l.length)=some (zD (off v l l.length),yC (gk (Mf d v l) (off v l l.length)) (off v l l.length)):=by
    cases hst:stk v (pK l r)
    ·obtain⟨a1,a2⟩:=aCj h hkl (b:=z0) (fun i hi=>by rw [hk0];exact aKZ hst hi) (fun i=>Bd.zero.mono (by omega)) hK
     rw [aA9] at a2
     by_cases hk3:k+3<off v l l.length
     ·obtain⟨r',q',g1,g2,g3⟩:=u8 l.length (k+3) hk3
      have hu':=rdU (m:=l.length) g2 g1
      rw [←g3] at hu'
      have hne:((r':Int)==(r:Int)&&((q':Nat):Int)==3)=false:=by
       rw [Bool.and_eq_false_iff]
       by_cases e:r'=r
       ·right
        refine qF fun e2=>?_
        rw [e] at g2
        rcases g2 with g|g
        ·omega
        ·rw [hst] at g;exact absurd g.1 (by decide)
       ·left;exact qF (by omega)
      simp only [eI,c3,oB,wZ,dT (show((k+3:Nat):Int)<(off v l l.length:Int) by omega),d8,hu',hne,dS,hz,a1,a2,tI (i:=k) (by omega)]
      exact ih
     ·simp only [eI,c3,oB,wZ,dF (show¬((k+3:Nat):Int)<(off v l l.length:Int) by omega),dS,hz,a1,a2,tI (i:=k) (by omega)]
      exact ih
    ·have v3:vq v l r 3:=.inr ⟨hst,by omega⟩
     have l3:=tD (v:=v) (l:=l) (m:=l.length) h1 v3
     rw [←hk0] at l3
     have hu':=rdU (m:=l.length) v3 h1
     rw [←hk0] at hu'
     obtain⟨a1,a2⟩:=aCj h hkl (b:=vC z0 (k+3) (pK l r).mu) (fun i hi=>by rw [hk0];exact aLA hst hi) (aEz hr.2) hK
     have hy:((r:Int)==(r:Int)&&((3:Nat):Int)==3)=true:=by rw [qT rfl];rfl
     have e1:=aBA (G:=gk (Mf d v l) k) (k:=k) (j:=k+3) (N:=off v l l.length) (b:=z0) (x:=(pK l r).mu)
     rw [aA9] at e1
     simp only [eI,c3,oB,wZ,dT (show((k+3:Nat):Int)<(off v l l.length:Int) by omega),d8,hu',hy,rdO l3,aAL l3,sN (f:=gk (Mf d v l) k (k+3)) hkl,y8 (f:=gk (Mf d v l) k (k+3)) hkl,aCo,e1,hz,a1,a2,tI (i:=k) (by omega)]
     exact ih
   simp only [bZ,wZ,dT (show(k:Int)<(off v l l.length:Int) by omega),d8,hu,oB,hcl,aB5 h1,qT (show((0:Nat):Int)=0 from rfl),sN (f:=p0) h1,y8 (f:=p0) h1]
   by_cases ht:(pK l r).t.length=0
   ·rw [if_pos ht] at hpk
    simp only [dF (show¬(0:Int)<((pK l r).t.length:Int) by omega),dS]
    rw [show(⟨1,(p0 r).f⟩:aO)=⟨1,0⟩ from rfl,hpk]
    exact key
   ·rw [if_neg ht] at hpk
    simp only [dT (show(0:Int)<((pK l r).t.length:Int) by omega),d8,aF6 h.sb.sv hr aJb (by omega) (show 13≤K by omega),oB,sN (f:=vC p0 r ⟨1,(p0 r).f⟩) h1,y8 (f:=vC p0 r ⟨1,(p0 r).f⟩) h1,lF,aKa,hpk]
    exact key
  ·have v3:vq v l r 3:=vqs h2 (by omega) (by omega)
   have l3:=tD (v:=v) (l:=l) (m:=l.length) h1 v3
   have hj:k+2<off v l l.length:=by omega
   have hpk:=aIb (x:=⟨0,1⟩) h2 (aLl h2)
   rw [←h3] at hpk
   obtain⟨a1,a2⟩:=aCj h hkl (b:=vC z0 (k+2) (-1)) (fun i hi=>by rw [h3];exact aLH h2 hi) (aEz aGC) hK
   have e1:=aBA (G:=gk (Mf d v l) k) (k:=k) (j:=k+2) (N:=off v l l.length) (b:=z0) (x:=-1)
   rw [aA9] at e1
   have c4:bW (((k+3:Nat):Int)-1)=some ((k+2:Nat):Int):=by rw [show((k+3:Nat):Int)-1=((k+2:Nat):Int) by omega,oA (by omega)]
   have ep:(⟨(p0 r).n,1⟩:aO)=⟨0,1⟩:=rfl
   simp only [bZ,wZ,dT (show(k:Int)<(off v l l.length:Int) by omega),d8,hu,oB,hcl,aB5 h1,qF (show((1:Nat):Int)≠0 by omega),qT (show((1:Nat):Int)=1 from rfl),dS,sN (f:=p0) h1,y8 (f:=p0) h1,ep,hpk,c3,c4,rdO hj,aHh,aAL hj,sN (f:=gk (Mf d v l) k (k+2)) hkl,y8 (f:=gk (Mf d v l) k (k+2)) hkl,aCo,e1,hz,a1,a2,tI (i:=k) (by omega)]
   exact ih
  ·have v3:vq v l r 3:=vqs h2 (by omega) (by omega)
   have l3:=tD (v:=v) (l:=l) (m:=l.length) h1 v3
   have hj:k+1<off v l l.length:=by omega
   have hpk:=aIb (x:=⟨0,-1⟩) h2 (aLN h2)
   rw [←h3] at hpk
   obtain⟨a1,a2⟩:=aCj h hkl (b:=vC z0 (k+1) (-1)) (fun i hi=>by rw [h3];exact aLF h2 hi) (aEz aGC) hK
   have e1:=aBA (G:=gk (Mf d v l) k) (k:=k) (j:=k+1) (N:=off v l l.length) (b:=z0) (x:=-1)
   rw [aA9] at e1
   have c4:bW (((k+3:Nat):Int)-2)=some ((k+1:Nat):Int):=by rw [show((k+3:Nat):Int)-2=((k+1:Nat):Int) by omega,oA (by omega)]
   have ep:(⟨(p0 r).n,-1⟩:aO)=⟨0,-1⟩:=rfl
   simp only [bZ,wZ,dT (show(k:Int)<(off v l l.length:Int) by omega),d8,hu,oB,hcl,aB5 h1,qF (show((2:Nat):Int)≠0 by omega),qF (show((2:Nat):Int)≠1 by omega),qT (show((2:Nat):Int)=2 from rfl),dS,sN (f:=p0) h1,y8 (f:=p0) h1,aHh,ep,hpk,c3,c4,rdO hj,aAL hj,sN (f:=gk (Mf d v l) k (k+1)) hkl,y8 (f:=gk (Mf d v l) k (k+1)) hkl,aCo,e1,hz,a1,a2,tI (i:=k) (by omega)]
   exact ih
  ·have hj1:k-2<off v l l.length:=by omega
   have hj2:k-1<off v l l.length:=by omega
   have e1:=aBA (G:=gk (Mf d v l) k) (k:=k) (j:=k-2) (N:=off v l l.length) (b:=z0) (x:=1)
   rw [aA9] at e1
   have e2:=aBA (G:=gk (Mf d v l) k) (k:=k) (j:=k-1) (N:=off v l l.length) (b:=vC z0 (k-2) 1) (x:=1)
   have e3:yC (zB (gk (Mf d v l) k) k (vC (vC z0 (k-2) 1) (k-1) 1)) (off v l l.length)=yC (gk (Mf d v l) (k+1)) (off v l l.length):=aJF fun i hi=>by
    rw [h3,aLC h2,aLB h2 hi];rfl
   have c1:bW (((k+1:Nat):Int)-3)=some ((k-2:Nat):Int):=by rw [show((k+1:Nat):Int)-3=((k-2:Nat):Int) by omega,oA (by omega)]
   have c2:bW ((k:Int)+2)=some ((k+2:Nat):Int):=by rw [oA (by omega)];rfl
   have c4:bW (((k+2:Nat):Int)-3)=some ((k-1:Nat):Int):=by rw [show((k+2:Nat):Int)-3=((k-1:Nat):Int) by omega,oA (by omega)]
   simp only [bZ,wZ,dT (show(k:Int)<(off v l l.length:Int) by omega),d8,hu,oB,hcl,aB5 h1,qF (show((3:Nat):Int)≠0 by omega),qF (show((3:Nat):Int)≠1 by omega),qF (show((3:Nat):Int)≠2 by omega),qT (show((3:Nat):Int)=3 from rfl),dS,tI (i:=k) (by omega),c1,c2,c4,rdO hj1,rdO hj2,aAL hj1,sN (f:=gk (Mf d v l) k (k-2)) hkl,y8 (f:=gk (Mf d v l) k (k-2)) hkl,aCo,e1,aAL hj2,sN (f:=zB (gk (Mf d v l) k) k (vC z0 (k-2) 1) (k-1)) hkl,y8 (f:=zB (gk (Mf d v l) k) k (vC z0 (k-2) 1) (k-1)) hkl,e2,e3]
   exact ih
theorem aE7 {d:List aT} {f v:List Rat} {l:List aH} (h:ScB d f v l) {K:Nat} (hK:5000≤K):kL K ⟨d,f,v,l⟩=some (mx (Mf d v l) (off v l l.length) (off v l l.length),mp (qf d (yN f) v l) (off v l l.length)):=by
 have h8:=h.m8
 have hn:=h.n8
 have h4:=sU (v:=v) (l:=l) l.length
 have hrb:RsB l:=fun r hr=>(h.sb.sl r hr).1
 have e1:=aIF (v:=v) (l:=l) (m:=l.length) (by omega) K (off v l l.length) 0 K (by omega) (by omega)
 have e2:mp (fun j=>if j<0 then j+1 else 0) (off v l l.length)=mp (fun _=>(0:Nat)) (off v l l.length):=hY fun j _=>if_neg (by omega)
 rw [e2] at e1
 have e3:([]::mx (fun _=>z0) 0 (off v l l.length):List (List Rat))=[[]]:=rfl
 rw [e3] at e1
 simp only [Int.natCast_zero] at e1
 have hc:(1+9)*24*l.length≤400000000:=by omega
 have hp0:PB' 1 l.length p0:=fun r _=>⟨Bd.zero,Bd.zero⟩
 have e4:=aHl (f0:=f) (v0:=v) (p:=p0) h.sb.sd (show d.length≤1000 by omega) h.fbd hrb h.ir (by omega) hp0 (by omega) hc (show 2000≤K by omega)
 rw [←h.fmp] at e4
 have hb:=aEA (p:=p0) h.sb.sd h.fbd hrb h.ir hp0 (by omega) (by omega) (by omega) hc
 have e5:=aIv (d:=d) (f:=f) (v:=v) h.sb.sl hb (by unfold aIo;omega) (by omega) (show 13≤K by omega) (off v l l.length) 0 K (by omega) (by omega)
 have e6:mp (fun j=>if j<0 then rv v l (mp (acc d (yN f) l p0) d.length) j else 0) (off v l l.length)=mp (fun _=>(0:Rat)) (off v l l.length):=hY fun j _=>if_neg (by omega)
 rw [e6] at e5
 simp only [Int.natCast_zero] at e5
 have e7:=aG5 h hK (off v l l.length) 0 K (by omega) (by omega)
 have e8:yC (gk (Mf d v l) 0) (off v l l.length)=yC (fun _=>z0) (off v l l.length):=t6 fun i c _ _=>if_neg (by omega)
 rw [e8] at e7
 simp only [Int.natCast_zero] at e7
 have e9:yC (gk (Mf d v l) (off v l l.length)) (off v l l.length)=yC (Mf d v l) (off v l l.length):=t6 fun i c _ hc=>if_pos hc
 rw [e9] at e7
 simp only [kL,aE0 h.sb.sv hrb (show l.length≤1000 by omega) (show 2000≤K by omega),oB,wZ,aD6 (z:=(0:Nat)) (n:=off v l l.length) (by omega),aD6 (z:=(0:Rat)) (n:=off v l l.length) (by omega),e1,mD,aD6 (z:=(⟨0,0⟩:aO)) (n:=l.length) (by omega),show mp (fun _=>(⟨0,0⟩:aO)) l.length=mp p0 l.length from rfl,e4,lK,e5,jW,aIN,e7,lQ,aKV]
 rfl
end Go.Proofs.YtcjdedkdoagifaaGreat
set_option linter.unusedVariables false
namespace Go.Proofs.YtcjdedkdoagifaaGreat
theorem wN {d:List aT} {f v:List Rat} {l:List aH} {r:aH} (h:(vE d.length v r&&oO v r)=false):aA1 d f v (l++[r])=false:=by
 unfold aA1
 have:((l++[r]).all fun r=>vE d.length v r&&oO v r)=false:=by
  rw [List.all_append,List.all_cons,h,Bool.false_and,Bool.and_false]
 rw [this,Bool.and_false]
theorem aC2 {d:List aT} {f v:List Rat} {l:List aH} (h:¬(d.length≤12∧f.length=d.length∧v.length=d.length)):aA1 d f v l=false:=by
 unfold aA1
 rw [decide_eq_false h,Bool.false_and,Bool.false_and]
theorem aEG {d:List aT} {f v:List Rat} {l:List aH} {r:aH} (h:SB d f v l) (hl:l.length≤99) (hr:RC r):SB d f v (l++[r]):=
 ⟨h.sd,h.dl,h.sf,h.fl,h.sv,h.vl,h.sl.snoc hr,by simp;omega⟩
theorem bd1:Bd 1 (1:Rat):=by constructor<;>decide
theorem aLp:∃q,y5 (-1) 3=some q∧q<0∧Bd 8 q:=by
 obtain⟨q,h1,h2,h3⟩:=aAN (k:=8) (p:=-1) (q:=3) (by decide) (by decide) (by decide) (by omega)
 exact⟨q,h1,by rw [h2];decide+kernel,h3⟩
theorem aIR {s:bC} (hs:aJ2 s) (hsb:SB s.dofs s.load s.v s.rows) {a1:Int} (h1:-9223372036854775808≤a1∧a1≤9223372036854775807):∃b,nZ s a1=some b∧SB b.dofs b.load b.v b.rows∧aA1 b.dofs b.load b.v b.rows=false:=by
 obtain⟨c,c1,c2,c3⟩:=aDO (x:=a1) (m:=8) h1 (by omega)
 have hn1:=hs.n1
 have hn4:=hs.n4
 have hll:=hs.ll
 have hvl:=hs.vl
 have hrl:=hs.rl
 have en:bW ((s.dofs.length:Int)-1)=some ((s.dofs.length-1:Nat):Int):=by rw [show(s.dofs.length:Int)-1=((s.dofs.length-1:Nat):Int) by omega,oA (by omega)]
 have aR:∀xs:List Rat,xs.length≤1000→qO ([]:List Rat) xs=some xs:=fun xs h=>by rw [wD (by simp;omega)];rfl
 have aW:∀xs:List aH,xs.length≤1000→qO ([]:List aH) xs=some xs:=fun xs h=>by rw [wD (by simp;omega)];rfl
 have aD:∀xs:List aT,xs.length≤1000→qO ([]:List aT) xs=some xs:=fun xs h=>by rw [wD (by simp;omega)];rfl
 have cut:∀{α:Type} (xs:List α),xs.length=s.dofs.length→slL xs 0 ((s.dofs.length-1:Nat):Int)=some (xs.take (s.dofs.length-1)):=fun xs h=>by
  unfold slL
  rw [if_pos ⟨by omega,by omega,by omega⟩]
  simp
 have hc:c=0∨c=1∨c=2∨c=3∨c=4∨c=5∨c=6∨c=7:=by omega
 have tb1:∀x:Int,TB [(⟨x,1⟩:aG)]:=fun x=>⟨by simp,fun t ht=>by rw [List.mem_singleton.1 ht];exact bd1.mono (by omega)⟩
 have tk0:∀(n:Nat) (x:Int),¬(0≤x∧x<(n:Int))→tOk n [(⟨x,1⟩:aG)]=false:=fun n x h=>by
  have:tk n [(⟨x,1⟩:aG)] 0=false:=decide_eq_false fun h2=>h ⟨h2.1,h2.2.1⟩
  show(tk n [(⟨x,1⟩:aG)] 0&&true)=false
  rw [this];rfl
 unfold nZ
 simp only [aIN,c1,oB]
 rcases hc with rfl|rfl|rfl|rfl|rfl|rfl|rfl|rfl
 ·refine⟨⟨s.dofs,s.load++[1],s.v,s.rows⟩,by simp only [qT (show(0:Int)=0 from rfl),d8,aR s.load (by omega),apS (xs:=s.load) (x:=(1:Rat)) (by omega),oB],?_,aC2 (by simp;omega)⟩
  exact⟨hsb.sd,hsb.dl,hsb.sf.snoc (bd1.mono (by omega)),by simp;omega,hsb.sv,hsb.vl,hsb.sl,hsb.ll⟩
 ·refine⟨⟨s.dofs,s.load,s.v.take (s.dofs.length-1),s.rows⟩,by simp only [qF (show(1:Int)≠0 by omega),qT (show(1:Int)=1 from rfl),dS,d8,en,oB,cut s.v hvl],?_,aC2 (by simp;omega)⟩
  exact⟨hsb.sd,hsb.dl,hsb.sf,hsb.fl,fun x hx=>hsb.sv x (List.mem_of_mem_take hx),by simp;omega,hsb.sl,hsb.ll⟩
 ·refine⟨⟨s.dofs,s.load,s.v,s.rows++[⟨0,0,0,0,0,[⟨(s.dofs.length:Int),1⟩],[],0,0⟩]⟩,by simp only [qF (show(2:Int)≠0 by omega),qF (show(2:Int)≠1 by omega),qT (show(2:Int)=2 from rfl),dS,d8,aW s.rows (by omega),apS (xs:=s.rows) (x:=(⟨0,0,0,0,0,[⟨(s.dofs.length:Int),1⟩],[],0,0⟩:aH)) (by omega),oB],aEG hsb (by omega) ⟨⟨tb1 _,TB.nil⟩,Bd.zero.mono (by omega)⟩,wN ?_⟩
  have e:=tk0 s.dofs.length (s.dofs.length:Int) (by omega)
  unfold vE
  simp only [e,Bool.false_and]
 ·refine⟨⟨s.dofs,s.load,s.v,s.rows++[⟨0,0,0,0,0,[],[⟨0,1⟩,⟨0,1⟩],0,0⟩]⟩,by simp only [qF (show(3:Int)≠0 by omega),qF (show(3:Int)≠1 by omega),qF (show(3:Int)≠2 by omega),qT (show(3:Int)=3 from rfl),dS,d8,aW s.rows (by omega),apS (xs:=s.rows) (x:=(⟨0,0,0,0,0,[],[⟨0,1⟩,⟨0,1⟩],0,0⟩:aH)) (by omega),oB],aEG hsb (by omega) ⟨⟨TB.nil,by simp,fun t ht=>?_⟩,Bd.zero.mono (by omega)⟩,wN ?_⟩
  ·have:t=⟨0,1⟩:=by simpa using ht
   rw [this];exact bd1.mono (by omega)
  ·have e:tOk s.dofs.length [(⟨0,1⟩:aG),⟨0,1⟩]=false:=by
    have:tk s.dofs.length [(⟨0,1⟩:aG),⟨0,1⟩] 1=false:=decide_eq_false fun h2=>absurd (h2.2.2 (by omega)) (by decide)
    show(tk s.dofs.length _ 0&&(tk s.dofs.length _ 1&&true))=false
    rw [this,Bool.false_and,Bool.and_false]
   unfold vE
   simp only [e,Bool.and_false,Bool.false_and]
 ·obtain⟨q,q1,q2,q3⟩:=aLp
  refine⟨⟨s.dofs,s.load,s.v,s.rows++[⟨0,0,0,0,0,[],[],q,0⟩]⟩,by simp only [qF (show(4:Int)≠0 by omega),qF (show(4:Int)≠1 by omega),qF (show(4:Int)≠2 by omega),qF (show(4:Int)≠3 by omega),qT (show(4:Int)=4 from rfl),dS,d8,aW s.rows (by omega),q1,apS (xs:=s.rows) (x:=(⟨0,0,0,0,0,[],[],q,0⟩:aH)) (by omega),oB],aEG hsb (by omega) ⟨⟨TB.nil,TB.nil⟩,q3⟩,wN ?_⟩
  have e:decide (0≤q.num.sign)=false:=decide_eq_false (by rw [aJW q2];omega)
  unfold vE
  simp only [e,Bool.and_false,Bool.false_and]
 ·refine⟨⟨s.dofs.take (s.dofs.length-1)++[⟨0,0,false,0,0⟩],s.load,s.v,s.rows⟩,by simp only [qF (show(5:Int)≠0 by omega),qF (show(5:Int)≠1 by omega),qF (show(5:Int)≠2 by omega),qF (show(5:Int)≠3 by omega),qF (show(5:Int)≠4 by omega),qT (show(5:Int)=5 from rfl),dS,d8,en,oB,cut s.dofs rfl,aD (s.dofs.take (s.dofs.length-1)) (by simp;omega),apS (xs:=s.dofs.take (s.dofs.length-1)) (x:=(⟨0,0,false,0,0⟩:aT)) (by simp;omega)],?_,?_⟩
  ·refine⟨fun x hx=>?_,by simp;omega,hsb.sf,hsb.fl,hsb.sv,hsb.vl,hsb.sl,hsb.ll⟩
   rcases List.mem_append.1 hx with h|h
   ·exact hsb.sd x (List.mem_of_mem_take h)
   ·rw [List.mem_singleton.1 h];exact Bd.zero.mono (by omega)
  ·unfold aA1
   have e:(s.dofs.take (s.dofs.length-1)++[(⟨0,0,false,0,0⟩:aT)]).all aCJ=false:=by
    rw [List.all_append,List.all_cons,show aCJ ⟨0,0,false,0,0⟩=false from rfl,Bool.false_and,Bool.and_false]
   rw [e,Bool.and_false,Bool.false_and]
 ·have e1:(s.v.take (s.dofs.length-1)++[(1:Rat)]).length=s.dofs.length:=by simp;omega
  refine⟨⟨s.dofs,s.load,s.v.take (s.dofs.length-1)++[1],s.rows++[⟨0,0,0,0,0,[⟨((s.dofs.length-1:Nat):Int),1⟩],[],0,0⟩]⟩,by simp only [qF (show(6:Int)≠0 by omega),qF (show(6:Int)≠1 by omega),qF (show(6:Int)≠2 by omega),qF (show(6:Int)≠3 by omega),qF (show(6:Int)≠4 by omega),qF (show(6:Int)≠5 by omega),qT (show(6:Int)=6 from rfl),dS,d8,en,oB,cut s.v hvl,aR (s.v.take (s.dofs.length-1)) (by simp;omega),apS (xs:=s.v.take (s.dofs.length-1)) (x:=(1:Rat)) (by simp;omega),aW s.rows (by omega),apS (xs:=s.rows) (x:=(⟨0,0,0,0,0,[⟨((s.dofs.length-1:Nat):Int),1⟩],[],0,0⟩:aH)) (by omega)],?_,wN ?_⟩
  ·refine⟨hsb.sd,hsb.dl,hsb.sf,hsb.fl,fun x hx=>?_,by rw [e1];omega,hsb.sl.snoc ⟨⟨tb1 _,TB.nil⟩,Bd.zero.mono (by omega)⟩,by simp;omega⟩
   rcases List.mem_append.1 hx with h|h
   ·exact hsb.sv x (List.mem_of_mem_take h)
   ·rw [List.mem_singleton.1 h];exact bd1.mono (by omega)
  ·have e2:rt [(⟨((s.dofs.length-1:Nat):Int),1⟩:aG)] (s.v.take (s.dofs.length-1)++[(1:Rat)])=1:=by
    show(0:Rat)+trm _ _=1
    unfold trm
    rw [decide_eq_true (show(0:Int)≤((s.dofs.length-1:Nat):Int)∧((s.dofs.length-1:Nat):Int)<(((s.v.take (s.dofs.length-1)++[(1:Rat)]).length:Nat):Int) by rw [e1];omega),Rat.zero_add]
    show(1:Rat)*yN _ (((s.dofs.length-1:Nat):Int)).toNat=1
    rw [Int.toNat_natCast,Rat.one_mul]
    unfold yN
    rw [List.getD_eq_getElem?_getD,List.getElem?_append_right (by simp;omega),List.length_take,Nat.min_eq_left (by omega),Nat.sub_self];rfl
   have e3:oO (s.v.take (s.dofs.length-1)++[(1:Rat)]) ⟨0,0,0,0,0,[⟨((s.dofs.length-1:Nat):Int),1⟩],[],0,0⟩=false:=by
    unfold oO
    rw [e2];rfl
   rw [e3,Bool.and_false]
 ·refine⟨⟨s.dofs,s.load,s.v,s.rows++[⟨0,0,0,0,0,[⟨-1,1⟩],[],0,0⟩]⟩,by simp only [qF (show(7:Int)≠0 by omega),qF (show(7:Int)≠1 by omega),qF (show(7:Int)≠2 by omega),qF (show(7:Int)≠3 by omega),qF (show(7:Int)≠4 by omega),qF (show(7:Int)≠5 by omega),qF (show(7:Int)≠6 by omega),qT (show(7:Int)=7 from rfl),dS,d8,aW s.rows (by omega),apS (xs:=s.rows) (x:=(⟨0,0,0,0,0,[⟨-1,1⟩],[],0,0⟩:aH)) (by omega),oB],aEG hsb (by omega) ⟨⟨tb1 _,TB.nil⟩,Bd.zero.mono (by omega)⟩,wN ?_⟩
  have e:=tk0 s.dofs.length (-1) (by omega)
  unfold vE
  simp only [e,Bool.false_and]
theorem aJ2.sbd {s:bC} (hs:aJ2 s):SB s.dofs s.load s.v s.rows:=by
 have hn1:=hs.n1
 have hn4:=hs.n4
 have hll:=hs.ll
 have hvl:=hs.vl
 have hrl:=hs.rl
 exact⟨fun x hx=>(hs.dofs x hx).1,by omega,fun x hx=>(hs.load x hx).mono (by omega),by omega,fun x hx=>(hs.v x hx).mono (by omega),by omega,hs.mus,by omega⟩
theorem aCl {d:List aT} {f v:List Rat} {l:List aH} (h:SB d f v l) (hf:aA1 d f v l=false) {K:Nat} (hK:200≤K):l6 K d f v l=some ([],[])∧iU K d f v l=some ([],[]):=by
 constructor
 ·simp only [l6,aGN h hK,hf,oB,Bool.not_false,d8]
 ·simp only [iU,aIG h hK,hf,oB,Bool.not_false,d8]
theorem aBv {a0:List Int} {a1:Bool} {a2:Int} (h0:aFS a0) (h2:-9223372036854775808≤a2∧a2≤9223372036854775807):∃K,jJ K a0 a1 a2=some true:=by
 obtain⟨s,hs,hm⟩:=aJZ h0 a1
 have hsb:=hs.sbd
 obtain⟨b,b1,b2,b3⟩:=aIR hs hsb h2
 have hrl:=hs.rl
 refine(?_:Ev (fun K=>jJ K a0 a1 a2) true).get
 unfold jJ
 refine Ev.bind hm ⟨6000,fun K hK=>?_⟩
 have hl:=aJP (K-40)
 rw [show K-40+40=K by omega] at hl
 have hb:=(aCl b2 b3 (show 200≤K by omega)).1
 have c0:bW ((([]:List (List Rat)).length:Int)+(([]:List Rat).length:Int))=some 0:=rfl
 cases hf:aA1 s.dofs s.load s.v s.rows
 ·obtain⟨e1,e2⟩:=aCl hsb hf (show 200≤K by omega)
  have s1:kQ K ([]:List (List Rat)) []=some true:=aGT (b:=1) (fun r hr=>absurd hr List.not_mem_nil) (by omega) (by simp) (by omega)
  have s2:iS K ([]:List Rat) []=some true:=aAZ (b:=1) (fun r hr=>absurd hr List.not_mem_nil) (by omega) (by simp) (by simp;omega)
  simp only [e1,e2,b1,hb,oB,s1,s2,d8,c0,qT (show(0:Int)=0 from rfl),hl]
 ·have hS:=aJT hsb (show s.rows.length≤8 by omega) hf
  have h4:=sU (v:=s.v) (l:=s.rows) s.rows.length
  have e1:=aE7 hS (show 5000≤K by omega)
  have e2:=aFH hS hf (show 5000≤K by omega)
  have hq:∀i,i<off s.v s.rows s.rows.length→Bd 100000 (qf s.dofs (yN s.load) s.v s.rows i):=fun i hi=>by rw [←aEF (n:=0)];exact hS.vbd (z:=z0) (fun _=>Bd.zero) hi
  have hM:Bdx (off s.v s.rows s.rows.length) (off s.v s.rows s.rows.length) 300000 (Mf s.dofs s.v s.rows):=fun i c hi _=>by
   rw [←aH6 (f:=yN s.load)]
   exact((hS.vbd (z:=ek c) (fun _=>aGO) hi).sub (hq i hi)).mono (by omega)
  have s1:=aLk hM (by omega) (by omega) (by omega) (K:=K) (by omega)
  have s2:=aAZ (l:=mp (qf s.dofs (yN s.load) s.v s.rows) (off s.v s.rows s.rows.length)) (aF0 hq) (by omega) (by rw [tG];omega) (K:=K) (by rw [tG];omega)
  simp only [l6,aGN hsb (show 200≤K by omega),hf,oB,Bool.not_true,dS,e1,e2,b1,s1,s2,d8]
  simp only [l6] at hb
  simp only [hb,oB,c0,qT (show(0:Int)=0 from rfl),d8,hl]
end Go.Proofs.YtcjdedkdoagifaaGreat
