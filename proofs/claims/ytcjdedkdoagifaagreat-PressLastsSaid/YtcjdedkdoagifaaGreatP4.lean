/- What the program's functions on digits compute: scaled, short, Mul. -/
import Derived.Test.YtcjdedkdoagifaaGreatP3
set_option linter.unusedVariables false
namespace Go.Proofs.YtcjdedkdoagifaaGreat
theorem aEY {v:Int} (h:0≤v):0≤v/1000000000∧0≤v%1000000000∧v%1000000000<1000000000∧v%1000000000+1000000000*(v/1000000000)=v:=by omega
theorem aB5 {out a:List Int} {i:Nat} {c c' k v:Int} (hl:i<out.length) (hI:W out 0 i+c*PB i=k*W a 0 i) (hv:v+1000000000*c'=a.getD i 0*k+c):
  W (out.set i v) 0 (i+1)+c'*PB (i+1)=k*W a 0 (i+1):=by
 rw [dS,dS,Nat.zero_add,d8 hl,sF (.inr (by omega))]
 simp only [PB]
 grind
theorem aAy {a:List Int} {f:Int} (ha:jB a) (hf0:0≤f) (hf1:f<1000000000) (hL:a.length≤9000000000000):∀(t i:Nat) (out:List Int) (c:Int),i+t=a.length→out.length=a.length+1→Dr out 0 i→0≤c→c<1000000000→W out 0 i+c*PB i=f*W a 0 i→
  ∃out' c',out'.length=a.length+1∧Dr out' 0 a.length∧0≤c'∧c'<1000000000∧W out' 0 a.length+c'*PB a.length=f*vD a∧∀K k,t<k→gR K a f k out c (i:Int)=some (out',c')
 |0,i,out,c,hi,ho,hD,hc0,hc1,hI=>by
  have:i=a.length:=by omega
  subst this
  refine⟨out,c,ho,hD,hc0,hc1,hI,fun K k hk=>?_⟩
  obtain⟨k',rfl,_⟩:=eC hk
  simp [gR]
 |t+1,i,out,c,hi,ho,hD,hc0,hc1,hI=>by
  have ha':=ha i
  have hm:=aAa ha'.1 ha'.2 hf0 hf1
  obtain⟨d1,d2,d3,d4⟩:=aEY (v:=a.getD i 0*f+c) (by omega)
  have e1:decide ((i:Int)<(a.length:Int))=true:=dT (by omega)
  have e2:=dC (xs:=a) (i:=i) (by omega)
  have e3:bQ ((i:Int)+1)=some ((i+1:Nat):Int):=uB (m:=0) (by omega) (by omega)
  have e4:=dC (xs:=out) (i:=i) (by omega)
  have e5:∀v,n8 out (i:Int) v=some (out.set i v):=fun v=>o5 (by omega)
  have e6:bQ (a.getD i 0*f)=some (a.getD i 0*f):=mM (by omega)
  have e7:bQ (a.getD i 0*f+c)=some (a.getD i 0*f+c):=mM (by omega)
  have e8:r6 (a.getD i 0*f+c) 1000000000=some ((a.getD i 0*f+c)%1000000000):=kL (by omega) (by omega)
  have e9:r4 (a.getD i 0*f+c) 1000000000=some ((a.getD i 0*f+c)/1000000000):=oM (by omega) (by omega) (by omega)
  obtain⟨o,d,h1,h2,h3,h4,h5,h6⟩:=aAy ha hf0 hf1 hL t (i+1) (out.set i ((a.getD i 0*f+c)%1000000000)) ((a.getD i 0*f+c)/1000000000) (by omega) (by simpa using ho) (vE hD (by omega) (by omega) (by omega)) (by omega) (by omega) (aB5 (by omega) hI (by omega))
  refine⟨o,d,h1,h2,h3,h4,h5,fun K k hk=>?_⟩
  obtain⟨k',rfl,_⟩:=eC hk
  simp only [gR,e1,e2,e3,e4,e5,e6,e7,e8,e9,gL,oB]
  exact h6 K k' (by omega)
theorem aAv {a:List Int} {f:Int} (ha:jB a) (hf0:0≤f) (hf1:f<1000000000) (hL:a.length≤60000000000):∃r,r.length=a.length+1∧jB r∧vD r=f*vD a∧Ev (fun K=>kO K a f) r:=by
 obtain⟨o,c,h1,h2,h3,h4,h5,h6⟩:=aAy ha hf0 hf1 (by omega) a.length 0 (List.replicate (a.length+1) 0) 0 (by omega) (by simp) (aBq _ _ _) (by omega) (by omega) (by simp [W])
 have e1:bQ ((a.length:Int)+1)=some ((a.length+1:Nat):Int):=uB (m:=0) (by omega) (by omega)
 have e2:s6 ((a.length+1:Nat):Int) (0:Int)=some (List.replicate (a.length+1) 0):=vM (by omega)
 refine⟨o.set a.length c,by simpa using h1,Dr.ok ?_,?_,⟨a.length+1,fun K hK=>?_⟩⟩
 ·rw [show(o.set a.length c).length=a.length+1 by simpa using h1]
  exact vE h2 (by omega) (by omega) (by omega)
 ·unfold vD at h5 ⊢
  rw [show(o.set a.length c).length=a.length+1 by simpa using h1,dS,Nat.zero_add,d8 (by omega),sF (.inr (by omega)),h5]
 ·have h6':=h6 K K (by omega)
  simp only [Int.natCast_zero] at h6'
  simp only [kO,e1,e2,oB,h6',nJ,dC (xs:=o) (i:=a.length) (by omega),o5 (xs:=o) (i:=a.length) (v:=c) (by omega)]
theorem w5 (u:List Int) (j n:Nat):W u j (n+1)=u.getD j 0+1000000000*W u (j+1) n:=by
 rw [Nat.add_comm n 1,rO,W1,show PB 1=1000000000 from by decide]
theorem aAS {a:List Int} {b:Int} (ha:jB a) (hb0:0<b) (hb1:b<1000000000) (hL:a.length≤9000000000000):∀(j:Nat) (q:List Int) (r:Int),j≤a.length→q.length=a.length→Dr q j (a.length-j)→0≤r→r<b→W a j (a.length-j)=b*W q j (a.length-j)+r→
  ∃q' r',q'.length=a.length∧jB q'∧0≤r'∧r'<b∧vD a=b*vD q'+r'∧∀K k,j<k→iA K a b k q r ((j:Int)-1)=some (q',r')
 |0,q,r,hj,hq,hD,hr0,hr1,hI=>by
  refine⟨q,r,hq,Dr.ok (by rw [hq];simpa using hD),hr0,hr1,?_,fun K k hk=>?_⟩
  ·simp only [Nat.sub_zero] at hI
   unfold vD
   rw [hq];exact hI
  ·obtain⟨k',rfl,_⟩:=eC hk
   simp [iA]
 |j+1,q,r,hj,hq,hD,hr0,hr1,hI=>by
  have ha':=ha j
  have e0:((j+1:Nat):Int)-1=(j:Int):=by omega
  have e1:decide (0≤(j:Int))=true:=dT (by omega)
  have e2:=dC (xs:=a) (i:=j) (by omega)
  have e3:bQ ((j:Int)-1)=some ((j:Int)-1):=mM (by omega)
  have e4:=dC (xs:=q) (i:=j) (by omega)
  have e5:∀v,n8 q (j:Int) v=some (q.set j v):=fun v=>o5 (by omega)
  have e6:bQ (r*1000000000)=some (r*1000000000):=mM (by omega)
  have e7:bQ (r*1000000000+a.getD j 0)=some (r*1000000000+a.getD j 0):=mM (by omega)
  have e8:r6 (r*1000000000+a.getD j 0) b=some ((r*1000000000+a.getD j 0)%b):=kL (by omega) hb0
  have e9:r4 (r*1000000000+a.getD j 0) b=some ((r*1000000000+a.getD j 0)/b):=oM (by omega) hb0 (by omega)
  have hq0:0≤(r*1000000000+a.getD j 0)/b:=Int.ediv_nonneg (by omega) (by omega)
  have hq1:(r*1000000000+a.getD j 0)/b<1000000000:=Int.ediv_lt_of_lt_mul hb0 (by
   have:(r+1)*1000000000≤b*1000000000:=Int.mul_le_mul_of_nonneg_right (by omega) (by omega)
   rw [Int.mul_comm 1000000000 b]
   omega)
  have hm0:=Int.emod_nonneg (r*1000000000+a.getD j 0) (show b≠0 by omega)
  have hm1:=Int.emod_lt_of_pos (r*1000000000+a.getD j 0) hb0
  have hdm:=Int.mul_ediv_add_emod (r*1000000000+a.getD j 0) b
  have es:a.length-j=(a.length-(j+1))+1:=by omega
  obtain⟨q',r',h1,h2,h3,h4,h5,h6⟩:=aAS ha hb0 hb1 hL j (q.set j ((r*1000000000+a.getD j 0)/b)) ((r*1000000000+a.getD j 0)%b) (by omega) (by simpa using hq)
   (fun i hi=>by
    by_cases e:i=0
    ·subst e;rw [Nat.add_zero,d8 (by omega)];exact⟨hq0,hq1⟩
    ·rw [eR (by omega)]
     have:=hD (i-1) (by omega)
     rwa [show j+1+(i-1)=j+i by omega] at this) hm0 hm1 (by
    rw [es,w5,w5,d8 (by omega),sF (.inl (by omega)),hI]
    grind)
  refine⟨q',r',h1,h2,h3,h4,h5,fun K k hk=>?_⟩
  obtain⟨k',rfl,_⟩:=eC hk
  rw [e0]
  simp only [iA,e1,e2,e3,e4,e5,e6,e7,e8,e9,gL,oB]
  exact h6 K k' (by omega)
theorem aAW {a:List Int} {b:Int} (ha:jB a) (hb0:0<b) (hb1:b<1000000000) (hL:a.length≤60000000000):∃q r,q.length=a.length∧jB q∧vD q=vD a/b∧r=vD a%b∧Ev (fun K=>mW K a b) (q,r):=by
 obtain⟨q,r,h1,h2,h3,h4,h5,h6⟩:=aAS ha hb0 hb1 (by omega) a.length (List.replicate a.length 0) 0 (Nat.le_refl _) (by simp) (aBq _ _ _) (by omega) hb0 (by simp [W])
 have e1:s6 (a.length:Int) (0:Int)=some (List.replicate a.length 0):=vM (by omega)
 have e2:bQ ((a.length:Int)-1)=some ((a.length:Int)-1):=mM (by omega)
 refine⟨q,r,h1,h2,?_,?_,⟨a.length+1,fun K hK=>?_⟩⟩
 ·rw [h5,Int.add_comm,Int.add_mul_ediv_left _ _ (by omega),Int.ediv_eq_zero_of_lt h3 h4,Int.zero_add]
 ·rw [h5,Int.add_comm,Int.add_mul_emod_self_left,Int.emod_eq_of_lt h3 h4]
 ·have h6':=h6 K K (by omega)
  simp only [mW,e1,e2,oB,h6',nR]
theorem aE7 {out o0 b:List Int} {i k:Nat} {c c' f v:Int} (hl:i+k<out.length) (hI:W out i k+c*PB k=W o0 i k+f*W b 0 k) (hv:v+1000000000*c'=o0.getD (i+k) 0+f*b.getD k 0+c):
  W (out.set (i+k) v) i (k+1)+c'*PB (k+1)=W o0 i (k+1)+f*W b 0 (k+1):=by
 rw [dS,dS,dS,d8 hl,sF (.inr (by omega)),Nat.zero_add]
 simp only [PB]
 grind
structure aBk (o0 b:List Int) (i:Nat) (f:Int) (out:List Int) (c:Int) (k:Nat):Prop where
 len:out.length=o0.length
 ok:jB out
 c0:0≤c
 c1:c<1000000000
 same:∀s,s<i∨i+k≤s→out.getD s 0=o0.getD s 0
 val:W out i k+c*PB k=W o0 i k+f*W b 0 k
theorem jB.set {u:List Int} {i:Nat} {v:Int} (h:jB u) (h0:0≤v) (h1:v<1000000000):jB (u.set i v):=fun t=>by
 rw [tO];split
 ·exact⟨h0,h1⟩
 ·exact h t
theorem aBk.step {o0 b out:List Int} {i k:Nat} {f c:Int} (h:aBk o0 b i f out c k) (hl:i+k<o0.length) (hf0:0≤f) (hf1:f<1000000000) (hb:jB b):
  0≤out.getD (i+k) 0+f*b.getD k 0+c∧out.getD (i+k) 0+f*b.getD k 0+c≤999999999999999999∧0≤f*b.getD k 0∧f*b.getD k 0≤999999998000000001∧0≤out.getD (i+k) 0∧out.getD (i+k) 0<1000000000∧
  aBk o0 b i f (out.set (i+k) ((out.getD (i+k) 0+f*b.getD k 0+c)%1000000000)) ((out.getD (i+k) 0+f*b.getD k 0+c)/1000000000) (k+1):=by
 have hb':=hb k
 have hm:=aAa hf0 hf1 hb'.1 hb'.2
 have ho:=h.ok (i+k)
 have c0:=h.c0
 have c1:=h.c1
 obtain⟨d1,d2,d3,d4⟩:=aEY (v:=out.getD (i+k) 0+f*b.getD k 0+c) (by omega)
 have he:=h.same (i+k) (.inr (Nat.le_refl _))
 refine⟨by omega,by omega,hm.1,hm.2,ho.1,ho.2,by simpa using h.len,h.ok.set d2 d3,d1,by omega,fun s hs=>?_,by exact aE7 (by have:=h.len;omega) h.val (by omega)⟩
 rw [eR (by omega)]
 exact h.same s (by omega)
theorem aDe {o0:List Int} {y:aP} {i:Nat} {f:Int} (hb:jB y.d) (hf0:0≤f) (hf1:f<1000000000) (hl:i+y.d.length≤o0.length) (hL:o0.length≤9000000000000):∀(t k:Nat) (out:List Int) (c:Int),k+t=y.d.length→aBk o0 y.d i f out c k→
  ∃out' c',aBk o0 y.d i f out' c' y.d.length∧∀K n,t<n→fU K y (i:Int) f n out c (k:Int)=some (out',c')
 |0,k,out,c,hk,hP=>by
  have:k=y.d.length:=by omega
  subst this
  refine⟨out,c,hP,fun K n hn=>?_⟩
  obtain⟨n',rfl,_⟩:=eC hn
  simp [fU]
 |t+1,k,out,c,hk,hP=>by
  obtain⟨g1,g2,g3,g4,g5,g6,g7⟩:=hP.step (by omega) hf0 hf1 hb
  have c0:=hP.c0
  have c1:=hP.c1
  have hlo:=hP.len
  generalize hv:out.getD (i+k) 0+f*y.d.getD k 0+c=v at *
  have e1:decide ((k:Int)<(y.d.length:Int))=true:=dT (by omega)
  have e2:=dC (xs:=y.d) (i:=k) (by omega)
  have e3:bQ ((k:Int)+1)=some ((k+1:Nat):Int):=uB (m:=0) (by omega) (by omega)
  have e4:bQ ((i:Int)+(k:Int))=some ((i+k:Nat):Int):=uB (m:=0) (by omega) (by omega)
  have e5:=dC (xs:=out) (i:=i+k) (by omega)
  have e6:bQ (f*y.d.getD k 0)=some (f*y.d.getD k 0):=mM (by omega)
  have e7:bQ (out.getD (i+k) 0+f*y.d.getD k 0)=some (out.getD (i+k) 0+f*y.d.getD k 0):=mM (by omega)
  have e8:bQ (out.getD (i+k) 0+f*y.d.getD k 0+c)=some v:=by rw [hv];exact mM (by omega)
  have e9:r4 v 1000000000=some (v/1000000000):=oM (by omega) (by omega) (by omega)
  have e10:bQ (v/1000000000*1000000000)=some (v/1000000000*1000000000):=mM (by omega)
  have e11:bQ (v-v/1000000000*1000000000)=some (v%1000000000):=by
   rw [show v-v/1000000000*1000000000=v%1000000000 by omega];exact mM (by omega)
  have e12:n8 out ((i+k:Nat):Int) (v%1000000000)=some (out.set (i+k) (v%1000000000)):=o5 (by omega)
  obtain⟨o,d,h1,h2⟩:=aDe hb hf0 hf1 hl hL t (k+1) _ _ (by omega) g7
  refine⟨o,d,h1,fun K n hn=>?_⟩
  obtain⟨n',rfl,_⟩:=eC hn
  simp only [fU,e1,e2,e3,e4,e5,e6,e7,e8,e9,e10,e11,e12,gL,oB]
  exact h2 K n' (by omega)
structure yL (a b out:List Int) (i:Nat):Prop where
 len:out.length=a.length+b.length
 ok:jB out
 zero:∀s,i+b.length≤s→out.getD s 0=0
 val:W out 0 (i+b.length)=W a 0 i*vD b
theorem yL.start (a b:List Int):yL a b (List.replicate (a.length+b.length) 0) 0 where
 len:=by simp
 ok:=fun i=>by simp only [List.getD_eq_getElem?_getD,List.getElem?_replicate];split<;>simp
 zero:=fun s _=>by simp only [List.getD_eq_getElem?_getD,List.getElem?_replicate];split<;>simp
 val:=by
  rw [zI]
  ·simp [W]
  ·intro i _;simp only [List.getD_eq_getElem?_getD,List.getElem?_replicate];split<;>simp
theorem yL.row {a b out:List Int} {i:Nat} (h:yL a b out i):aBk out b i (a.getD i 0) out 0 0 where
 len:=rfl
 ok:=h.ok
 c0:=Int.le_refl _
 c1:=by decide
 same:=fun _ _=>rfl
 val:=by simp [W]
theorem yL.next {a b out out':List Int} {i:Nat} {c:Int} (h:yL a b out i) (hi:i<a.length) (hr:aBk out b i (a.getD i 0) out' c b.length):yL a b (out'.set (i+b.length) c) (i+1) where
 len:=by simpa using hr.len.trans h.len
 ok:=hr.ok.set hr.c0 hr.c1
 zero:=fun s hs=>by
  rw [eR (by omega),hr.same s (by omega)]
  exact h.zero s (by omega)
 val:=by
  have hlen:=hr.len.trans h.len
  rw [show i+1+b.length=(i+b.length)+1 by omega,dS,Nat.zero_add,d8 (by omega),sF (.inr (by omega)),rO,dS,Nat.zero_add]
  have h1:=hr.val
  have h2:=h.val
  rw [rO,Nat.zero_add] at h2
  have h3:W out' 0 i=W out 0 i:=xU fun s hs=>by
   rw [Nat.zero_add];exact hr.same s (.inl hs)
  rw [h3,vP]
  unfold vD at *
  grind
theorem aCW {x y:aP} (ha:jB x.d) (hb:jB y.d) (hL:x.d.length+y.d.length≤9000000000000):∀(t i:Nat) (out:List Int),i+t=x.d.length→yL x.d y.d out i→
  ∃out',yL x.d y.d out' x.d.length∧qK (fun K k=>fD K x y k out (i:Int)) out'
 |0,i,out,hi,hP=>by
  have:i=x.d.length:=by omega
  subst this
  refine⟨out,hP,qK.of 1 fun K n hn=>?_⟩
  obtain⟨n',rfl,_⟩:=eC (n:=0) hn
  simp [fD]
 |t+1,i,out,hi,hP=>by
  have ha':=ha i
  have hlo:=hP.len
  obtain⟨o,c,h1,h2⟩:=aDe hb ha'.1 ha'.2 (by omega) (by omega) y.d.length 0 out 0 (by omega) hP.row
  have hlo2:=h1.len
  obtain⟨r,h3,h4⟩:=aCW ha hb hL t (i+1) _ (by omega) (hP.next (by omega) h1)
  refine⟨r,h3,qK.step ?_⟩
  have e1:decide ((i:Int)<(x.d.length:Int))=true:=dT (by omega)
  have e2:=dC (xs:=x.d) (i:=i) (by omega)
  have e3:bQ ((i:Int)+1)=some ((i+1:Nat):Int):=uB (m:=0) (by omega) (by omega)
  have e4:bQ ((i:Int)+(y.d.length:Int))=some ((i+y.d.length:Nat):Int):=uB (m:=0) (by omega) (by omega)
  have e5:=dC (xs:=o) (i:=i+y.d.length) (by omega)
  have e6:n8 o ((i+y.d.length:Nat):Int) c=some (o.set (i+y.d.length) c):=o5 (by omega)
  simp only [fD,e1,e2,gL,oB]
  refine qK.bind (x:=(o,c)) (f:=fun K=>fU K y (i:Int) (x.d.getD i 0) K out 0 0) ⟨y.d.length+1,fun K hK=>h2 K K (by omega)⟩ ?_
  simp only [nA,e3,e4,e5,e6,oB]
  exact h4
theorem aBd (x y:Int):(if(decide (x<0) != decide (y<0))=true then -((x.natAbs:Int)*y.natAbs) else(x.natAbs:Int)*y.natAbs)=x*y:=by
 by_cases hx:x<0<;>by_cases hy:y<0
 ·rw [dT hx,dT hy,show(x.natAbs:Int)=-x by omega,show(y.natAbs:Int)=-y by omega];simp [Int.neg_mul_neg]
 ·rw [dT hx,dF hy,show(x.natAbs:Int)=-x by omega,show(y.natAbs:Int)=y by omega];simp [Int.neg_mul]
 ·rw [dF hx,dT hy,show(x.natAbs:Int)=x by omega,show(y.natAbs:Int)=-y by omega];simp [Int.mul_neg]
 ·rw [dF hx,dF hy,show(x.natAbs:Int)=x by omega,show(y.natAbs:Int)=y by omega];simp
theorem aEp {x y:Int} (hL:dl x.natAbs+dl y.natAbs≤60000000000):Ev (fun K=>(bQ (((Z x).d.length:Int)+((Z y).d.length:Int))).bind fun v16=>(s6 v16 0).bind fun x18=>(fD K (Z x) (Z y) K x18 0).bind fun x37=>m8 K (Z x) (Z y) x37) (Z (x*y)):=by
 have dx:=cG x.natAbs
 have dy:=cG y.natAbs
 have lx:(cJ x.natAbs).length=dl x.natAbs:=rfl
 have ly:(cJ y.natAbs).length=dl y.natAbs:=rfl
 obtain⟨r,h1,h2⟩:=aCW (x:=Z x) (y:=Z y) dx dy (by rw [oE,oE];omega) (Z x).d.length 0 _ (by omega) (yL.start _ _)
 have e1:bQ (((Z x).d.length:Int)+((Z y).d.length:Int))=some (((Z x).d.length+(Z y).d.length:Nat):Int):=uB (m:=0) (by omega) (by rw [oE,oE];omega)
 have e2:s6 (((Z x).d.length+(Z y).d.length:Nat):Int) (0:Int)=some (List.replicate ((Z x).d.length+(Z y).d.length) 0):=vM (by rw [oE,oE];omega)
 simp only [e1,e2,oB]
 refine Ev.bind h2.ev ?_
 have h3:=r8 ((Z x).neg != (Z y).neg) h1.ok (by rw [h1.len,oE,oE];omega)
 unfold m8
 refine Ev.bind h3 ?_
 have hv:vD r=x.natAbs*y.natAbs:=by
  have:=h1.val
  rw [←h1.len] at this
  have vx:=dN x.natAbs
  have vy:=dN y.natAbs
  unfold vD at *
  rw [this]
  show W (cJ x.natAbs) 0 (cJ x.natAbs).length*W (cJ y.natAbs) 0 (cJ y.natAbs).length=_
  rw [vx,vy]
 rw [p6,qE,qE,hv]
 have:(if(decide (x<0) != decide (y<0))=true then -((((x.natAbs:Int)*y.natAbs).toNat:Nat):Int) else((((x.natAbs:Int)*y.natAbs).toNat:Nat):Int))=x*y:=by
  have h0:0≤(x.natAbs:Int)*y.natAbs:=Int.mul_nonneg (by omega) (by omega)
  rw [Int.toNat_of_nonneg h0]
  exact aBd x y
 rw [this]
 exact Ev.pure _
theorem aAU (K:Nat) (y:aP) (x v:Int):∀(k:Nat) (s:List Int) (c i:Int),kK K y x v k s c i=fU K y x v k s c i
 |0,_,_,_=>rfl
 |k+1,s,c,i=>by simp only [kK,fU,aAU K y x v k]
theorem aA2 (K:Nat) (x y:aP):∀(k:Nat) (s:List Int) (i:Int),iT K x y k s i=fD K x y k s i
 |0,_,_=>rfl
 |k+1,s,i=>by simp only [iT,fD,oU,nA,aAU,aA2 K x y k]
theorem u6 {n:Nat} (h:(cJ n).length=1):(cJ n).getD 0 0=n∧n<1000000000:=by
 have h1:=dN n
 unfold vD at h1
 rw [h,W1] at h1
 have:=cG n 0
 omega
theorem tA {x y:Int} (hL:dl x.natAbs+dl y.natAbs≤60000000000):Ev (fun K=>cK K (Z x) (Z y)) (Z (x*y)):=by
 have hc:=aEp hL
 unfold cK
 by_cases h1:(Z x).d.length=1
 ·have e1:(((Z x).d.length:Int)==1)=true:=qT (by omega)
  simp only [e1,gL]
  by_cases h2:(Z y).d.length=1
  ·have e2:(((Z y).d.length:Int)==1)=true:=qT (by omega)
   obtain⟨a1,a2⟩:=u6 h1
   obtain⟨b1,b2⟩:=u6 h2
   have r1:=dC (xs:=(Z x).d) (i:=0) (by omega)
   have r2:=dC (xs:=(Z y).d) (i:=0) (by omega)
   simp only [Int.natCast_zero] at r1 r2
   rw [Z_d] at r1 r2
   rw [a1] at r1
   rw [b1] at r2
   have hb:=aAa (x:=(x.natAbs:Int)) (y:=(y.natAbs:Int)) (by omega) (by omega) (by omega) (by omega)
   have e3:wu (IntKind.u64.wrap (x.natAbs:Int)*IntKind.u64.wrap (y.natAbs:Int))=((x.natAbs*y.natAbs:Nat):Int):=by
    rw [IntWalk.u64_in _ ⟨by omega,by omega⟩,IntWalk.u64_in _ ⟨by omega,by omega⟩,aFN hb.1 (by omega),Int.natCast_mul]
   have hb':x.natAbs*y.natAbs≤18446744073709551615:=by
    have:((x.natAbs*y.natAbs:Nat):Int)=x.natAbs*y.natAbs:=Int.natCast_mul _ _
    omega
   refine Ev.of fun K=>?_
   rw [Z_d] at e2
   simp only [e2,gL,r1,r2,Z_d,qE,oB,e3,oJ _ hb']
   rw [p6]
   congr 2
   rw [Int.natCast_mul]
   exact aBd x y
  ·have e2:(((Z y).d.length:Int)==1)=false:=qF (by omega)
   simp only [e2,gT]
   exact hc
 ·have e1:(((Z x).d.length:Int)==1)=false:=qF (by omega)
  simp only [e1,gT,aA2]
  exact hc
end Go.Proofs.YtcjdedkdoagifaaGreat
