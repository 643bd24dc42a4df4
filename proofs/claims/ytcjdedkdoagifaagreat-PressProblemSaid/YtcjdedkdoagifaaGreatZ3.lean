/- Texts of the proof, part 3: P4 P5 P6 P7 P8 R1 RZ PR L1 FR FJ PC. -/
import Derived.Test.YtcjdedkdoagifaaGreatRows
import Derived.WalkKit
import Derived.ProofKit
import Derived.OpenShut
import Derived.Test.YtcjdedkdoagifaaGreatZ2
set_option linter.unusedVariables false
namespace Go.Proofs.YtcjdedkdoagifaaGreat
theorem aI7 {v:Int} (h:0≤v):0≤v/1000000000∧0≤v%1000000000∧v%1000000000<1000000000∧v%1000000000+1000000000*(v/1000000000)=v:=by omega
theorem aFW {out a:List Int} {i:Nat} {c c' k v:Int} (hl:i<out.length) (hI:W out 0 i+c*PB i=k*W a 0 i) (hv:v+1000000000*c'=a.getD i 0*k+c):
  W (out.set i v) 0 (i+1)+c'*PB (i+1)=k*W a 0 (i+1):=by
 rw [eK,eK,Nat.zero_add,eU hl,vQ (.inr (by omega))]
 simp only [PB]
 grind
theorem aDg {a:List Int} {f:Int} (ha:lA a) (hf0:0≤f) (hf1:f<1000000000) (hL:a.length≤9000000000000):∀(t i:Nat) (out:List Int) (c:Int),i+t=a.length→out.length=a.length+1→Dr out 0 i→0≤c→c<1000000000→W out 0 i+c*PB i=f*W a 0 i→
  ∃out' c',out'.length=a.length+1∧Dr out' 0 a.length∧0≤c'∧c'<1000000000∧W out' 0 a.length+c'*PB a.length=f*vD a∧∀K k,t<k→jO K a f k out c (i:Int)=some (out',c')
 |0,i,out,c,hi,ho,hD,hc0,hc1,hI=>by
  have:i=a.length:=by omega
  subst this
  refine⟨out,c,ho,hD,hc0,hc1,hI,fun K k hk=>?_⟩
  obtain⟨k',rfl,_⟩:=cU hk
  simp [jO]
 |t+1,i,out,c,hi,ho,hD,hc0,hc1,hI=>by
  have ha':=ha i
  have hm:=aC7 ha'.1 ha'.2 hf0 hf1
  obtain⟨d1,d2,d3,d4⟩:=aI7 (v:=a.getD i 0*f+c) (by omega)
  have e1:decide ((i:Int)<(a.length:Int))=true:=dT (by omega)
  have e2:=dU (xs:=a) (i:=i) (by omega)
  have e3:bW ((i:Int)+1)=some ((i+1:Nat):Int):=yB (m:=0) (by omega) (by omega)
  have e4:=dU (xs:=out) (i:=i) (by omega)
  have e5:∀v,qC out (i:Int) v=some (out.set i v):=fun v=>sC (by omega)
  have e6:bW (a.getD i 0*f)=some (a.getD i 0*f):=oA (by omega)
  have e7:bW (a.getD i 0*f+c)=some (a.getD i 0*f+c):=oA (by omega)
  have e8:vM (a.getD i 0*f+c) 1000000000=some ((a.getD i 0*f+c)%1000000000):=nR (by omega) (by omega)
  have e9:vW (a.getD i 0*f+c) 1000000000=some ((a.getD i 0*f+c)/1000000000):=sA (by omega) (by omega) (by omega)
  obtain⟨o,d,h1,h2,h3,h4,h5,h6⟩:=aDg ha hf0 hf1 hL t (i+1) (out.set i ((a.getD i 0*f+c)%1000000000)) ((a.getD i 0*f+c)/1000000000) (by omega) (by simpa using ho) (zM hD (by omega) (by omega) (by omega)) (by omega) (by omega) (aFW (by omega) hI (by omega))
  refine⟨o,d,h1,h2,h3,h4,h5,fun K k hk=>?_⟩
  obtain⟨k',rfl,_⟩:=cU hk
  simp only [jO,e1,e2,e3,e4,e5,e6,e7,e8,e9,d8,oB]
  exact h6 K k' (by omega)
theorem aCt {a:List Int} {f:Int} (ha:lA a) (hf0:0≤f) (hf1:f<1000000000) (hL:a.length≤60000000000):∃r,r.length=a.length+1∧lA r∧vD r=f*vD a∧Ev (fun K=>mN K a f) r:=by
 obtain⟨o,c,h1,h2,h3,h4,h5,h6⟩:=aDg ha hf0 hf1 (by omega) a.length 0 (List.replicate (a.length+1) 0) 0 (by omega) (by simp) (aEk _ _ _) (by omega) (by omega) (by simp [W])
 have e1:bW ((a.length:Int)+1)=some ((a.length+1:Nat):Int):=yB (m:=0) (by omega) (by omega)
 have e2:vK ((a.length+1:Nat):Int) (0:Int)=some (List.replicate (a.length+1) 0):=yV (by omega)
 refine⟨o.set a.length c,by simpa using h1,Dr.ok ?_,?_,⟨a.length+1,fun K hK=>?_⟩⟩
 ·rw [show(o.set a.length c).length=a.length+1 by simpa using h1]
  exact zM h2 (by omega) (by omega) (by omega)
 ·unfold vD at h5 ⊢
  rw [show(o.set a.length c).length=a.length+1 by simpa using h1,eK,Nat.zero_add,eU (by omega),vQ (.inr (by omega)),h5]
 ·have h6':=h6 K K (by omega)
  simp only [Int.natCast_zero] at h6'
  simp only [mN,e1,e2,oB,h6',qA,dU (xs:=o) (i:=a.length) (by omega),sC (xs:=o) (i:=a.length) (v:=c) (by omega)]
theorem aAX (u:List Int) (j n:Nat):W u j (n+1)=u.getD j 0+1000000000*W u (j+1) n:=by
 rw [Nat.add_comm n 1,uV,W1,show PB 1=1000000000 from by decide]
theorem aD3 {a:List Int} {b:Int} (ha:lA a) (hb0:0<b) (hb1:b<1000000000) (hL:a.length≤9000000000000):∀(j:Nat) (q:List Int) (r:Int),j≤a.length→q.length=a.length→Dr q j (a.length-j)→0≤r→r<b→W a j (a.length-j)=b*W q j (a.length-j)+r→
  ∃q' r',q'.length=a.length∧lA q'∧0≤r'∧r'<b∧vD a=b*vD q'+r'∧∀K k,j<k→kF K a b k q r ((j:Int)-1)=some (q',r')
 |0,q,r,hj,hq,hD,hr0,hr1,hI=>by
  refine⟨q,r,hq,Dr.ok (by rw [hq];simpa using hD),hr0,hr1,?_,fun K k hk=>?_⟩
  ·simp only [Nat.sub_zero] at hI
   unfold vD
   rw [hq];exact hI
  ·obtain⟨k',rfl,_⟩:=cU hk
   simp [kF]
 |j+1,q,r,hj,hq,hD,hr0,hr1,hI=>by
  have ha':=ha j
  have e0:((j+1:Nat):Int)-1=(j:Int):=by omega
  have e1:decide (0≤(j:Int))=true:=dT (by omega)
  have e2:=dU (xs:=a) (i:=j) (by omega)
  have e3:bW ((j:Int)-1)=some ((j:Int)-1):=oA (by omega)
  have e4:=dU (xs:=q) (i:=j) (by omega)
  have e5:∀v,qC q (j:Int) v=some (q.set j v):=fun v=>sC (by omega)
  have e6:bW (r*1000000000)=some (r*1000000000):=oA (by omega)
  have e7:bW (r*1000000000+a.getD j 0)=some (r*1000000000+a.getD j 0):=oA (by omega)
  have e8:vM (r*1000000000+a.getD j 0) b=some ((r*1000000000+a.getD j 0)%b):=nR (by omega) hb0
  have e9:vW (r*1000000000+a.getD j 0) b=some ((r*1000000000+a.getD j 0)/b):=sA (by omega) hb0 (by omega)
  have hq0:0≤(r*1000000000+a.getD j 0)/b:=Int.ediv_nonneg (by omega) (by omega)
  have hq1:(r*1000000000+a.getD j 0)/b<1000000000:=Int.ediv_lt_of_lt_mul hb0 (by
   have:(r+1)*1000000000≤b*1000000000:=Int.mul_le_mul_of_nonneg_right (by omega) (by omega)
   rw [Int.mul_comm 1000000000 b]
   omega)
  have hm0:=Int.emod_nonneg (r*1000000000+a.getD j 0) (show b≠0 by omega)
  have hm1:=Int.emod_lt_of_pos (r*1000000000+a.getD j 0) hb0
  have hdm:=Int.mul_ediv_add_emod (r*1000000000+a.getD j 0) b
  have es:a.length-j=(a.length-(j+1))+1:=by omega
  obtain⟨q',r',h1,h2,h3,h4,h5,h6⟩:=aD3 ha hb0 hb1 hL j (q.set j ((r*1000000000+a.getD j 0)/b)) ((r*1000000000+a.getD j 0)%b) (by omega) (by simpa using hq)
   (fun i hi=>by
    by_cases e:i=0
    ·subst e;rw [Nat.add_zero,eU (by omega)];exact⟨hq0,hq1⟩
    ·rw [fJ (by omega)]
     have:=hD (i-1) (by omega)
     rwa [show j+1+(i-1)=j+i by omega] at this) hm0 hm1 (by
    rw [es,aAX,aAX,eU (by omega),vQ (.inl (by omega)),hI]
    grind)
  refine⟨q',r',h1,h2,h3,h4,h5,fun K k hk=>?_⟩
  obtain⟨k',rfl,_⟩:=cU hk
  rw [e0]
  simp only [kF,e1,e2,e3,e4,e5,e6,e7,e8,e9,d8,oB]
  exact h6 K k' (by omega)
theorem aD1 {a:List Int} {b:Int} (ha:lA a) (hb0:0<b) (hb1:b<1000000000) (hL:a.length≤60000000000):∃q r,q.length=a.length∧lA q∧vD q=vD a/b∧r=vD a%b∧Ev (fun K=>pW K a b) (q,r):=by
 obtain⟨q,r,h1,h2,h3,h4,h5,h6⟩:=aD3 ha hb0 hb1 (by omega) a.length (List.replicate a.length 0) 0 (Nat.le_refl _) (by simp) (aEk _ _ _) (by omega) hb0 (by simp [W])
 have e1:vK (a.length:Int) (0:Int)=some (List.replicate a.length 0):=yV (by omega)
 have e2:bW ((a.length:Int)-1)=some ((a.length:Int)-1):=oA (by omega)
 refine⟨q,r,h1,h2,?_,?_,⟨a.length+1,fun K hK=>?_⟩⟩
 ·rw [h5,Int.add_comm,Int.add_mul_ediv_left _ _ (by omega),Int.ediv_eq_zero_of_lt h3 h4,Int.zero_add]
 ·rw [h5,Int.add_comm,Int.add_mul_emod_self_left,Int.emod_eq_of_lt h3 h4]
 ·have h6':=h6 K K (by omega)
  simp only [pW,e1,e2,oB,h6',qV]
theorem aH5 {out o0 b:List Int} {i k:Nat} {c c' f v:Int} (hl:i+k<out.length) (hI:W out i k+c*PB k=W o0 i k+f*W b 0 k) (hv:v+1000000000*c'=o0.getD (i+k) 0+f*b.getD k 0+c):
  W (out.set (i+k) v) i (k+1)+c'*PB (k+1)=W o0 i (k+1)+f*W b 0 (k+1):=by
 rw [eK,eK,eK,eU hl,vQ (.inr (by omega)),Nat.zero_add]
 simp only [PB]
 grind
structure aEJ (o0 b:List Int) (i:Nat) (f:Int) (out:List Int) (c:Int) (k:Nat):Prop where
 len:out.length=o0.length
 ok:lA out
 c0:0≤c
 c1:c<1000000000
 same:∀s,s<i∨i+k≤s→out.getD s 0=o0.getD s 0
 val:W out i k+c*PB k=W o0 i k+f*W b 0 k
theorem lA.set {u:List Int} {i:Nat} {v:Int} (h:lA u) (h0:0≤v) (h1:v<1000000000):lA (u.set i v):=fun t=>by
 rw [xM];split
 ·exact⟨h0,h1⟩
 ·exact h t
theorem aEJ.step {o0 b out:List Int} {i k:Nat} {f c:Int} (h:aEJ o0 b i f out c k) (hl:i+k<o0.length) (hf0:0≤f) (hf1:f<1000000000) (hb:lA b):
  0≤out.getD (i+k) 0+f*b.getD k 0+c∧out.getD (i+k) 0+f*b.getD k 0+c≤999999999999999999∧0≤f*b.getD k 0∧f*b.getD k 0≤999999998000000001∧0≤out.getD (i+k) 0∧out.getD (i+k) 0<1000000000∧
  aEJ o0 b i f (out.set (i+k) ((out.getD (i+k) 0+f*b.getD k 0+c)%1000000000)) ((out.getD (i+k) 0+f*b.getD k 0+c)/1000000000) (k+1):=by
 have hb':=hb k
 have hm:=aC7 hf0 hf1 hb'.1 hb'.2
 have ho:=h.ok (i+k)
 have c0:=h.c0
 have c1:=h.c1
 obtain⟨d1,d2,d3,d4⟩:=aI7 (v:=out.getD (i+k) 0+f*b.getD k 0+c) (by omega)
 have he:=h.same (i+k) (.inr (Nat.le_refl _))
 refine⟨by omega,by omega,hm.1,hm.2,ho.1,ho.2,by simpa using h.len,h.ok.set d2 d3,d1,by omega,fun s hs=>?_,by exact aH5 (by have:=h.len;omega) h.val (by omega)⟩
 rw [fJ (by omega)]
 exact h.same s (by omega)
theorem aHk {o0:List Int} {y:aZ} {i:Nat} {f:Int} (hb:lA y.d) (hf0:0≤f) (hf1:f<1000000000) (hl:i+y.d.length≤o0.length) (hL:o0.length≤9000000000000):∀(t k:Nat) (out:List Int) (c:Int),k+t=y.d.length→aEJ o0 y.d i f out c k→
  ∃out' c',aEJ o0 y.d i f out' c' y.d.length∧∀K n,t<n→gV K y (i:Int) f n out c (k:Int)=some (out',c')
 |0,k,out,c,hk,hP=>by
  have:k=y.d.length:=by omega
  subst this
  refine⟨out,c,hP,fun K n hn=>?_⟩
  obtain⟨n',rfl,_⟩:=cU hn
  simp [gV]
 |t+1,k,out,c,hk,hP=>by
  obtain⟨g1,g2,g3,g4,g5,g6,g7⟩:=hP.step (by omega) hf0 hf1 hb
  have c0:=hP.c0
  have c1:=hP.c1
  have hlo:=hP.len
  generalize hv:out.getD (i+k) 0+f*y.d.getD k 0+c=v at *
  have e1:decide ((k:Int)<(y.d.length:Int))=true:=dT (by omega)
  have e2:=dU (xs:=y.d) (i:=k) (by omega)
  have e3:bW ((k:Int)+1)=some ((k+1:Nat):Int):=yB (m:=0) (by omega) (by omega)
  have e4:bW ((i:Int)+(k:Int))=some ((i+k:Nat):Int):=yB (m:=0) (by omega) (by omega)
  have e5:=dU (xs:=out) (i:=i+k) (by omega)
  have e6:bW (f*y.d.getD k 0)=some (f*y.d.getD k 0):=oA (by omega)
  have e7:bW (out.getD (i+k) 0+f*y.d.getD k 0)=some (out.getD (i+k) 0+f*y.d.getD k 0):=oA (by omega)
  have e8:bW (out.getD (i+k) 0+f*y.d.getD k 0+c)=some v:=by rw [hv];exact oA (by omega)
  have e9:vW v 1000000000=some (v/1000000000):=sA (by omega) (by omega) (by omega)
  have e10:bW (v/1000000000*1000000000)=some (v/1000000000*1000000000):=oA (by omega)
  have e11:bW (v-v/1000000000*1000000000)=some (v%1000000000):=by
   rw [show v-v/1000000000*1000000000=v%1000000000 by omega];exact oA (by omega)
  have e12:qC out ((i+k:Nat):Int) (v%1000000000)=some (out.set (i+k) (v%1000000000)):=sC (by omega)
  obtain⟨o,d,h1,h2⟩:=aHk hb hf0 hf1 hl hL t (k+1) _ _ (by omega) g7
  refine⟨o,d,h1,fun K n hn=>?_⟩
  obtain⟨n',rfl,_⟩:=cU hn
  simp only [gV,e1,e2,e3,e4,e5,e6,e7,e8,e9,e10,e11,e12,d8,oB]
  exact h2 K n' (by omega)
structure aBM (a b out:List Int) (i:Nat):Prop where
 len:out.length=a.length+b.length
 ok:lA out
 zero:∀s,i+b.length≤s→out.getD s 0=0
 val:W out 0 (i+b.length)=W a 0 i*vD b
theorem aBM.start (a b:List Int):aBM a b (List.replicate (a.length+b.length) 0) 0 where
 len:=by simp
 ok:=fun i=>by simp only [List.getD_eq_getElem?_getD,List.getElem?_replicate];split<;>simp
 zero:=fun s _=>by simp only [List.getD_eq_getElem?_getD,List.getElem?_replicate];split<;>simp
 val:=by
  rw [aCf]
  ·simp [W]
  ·intro i _;simp only [List.getD_eq_getElem?_getD,List.getElem?_replicate];split<;>simp
theorem aBM.row {a b out:List Int} {i:Nat} (h:aBM a b out i):aEJ out b i (a.getD i 0) out 0 0 where
 len:=rfl
 ok:=h.ok
 c0:=Int.le_refl _
 c1:=by decide
 same:=fun _ _=>rfl
 val:=by simp [W]
theorem aBM.next {a b out out':List Int} {i:Nat} {c:Int} (h:aBM a b out i) (hi:i<a.length) (hr:aEJ out b i (a.getD i 0) out' c b.length):aBM a b (out'.set (i+b.length) c) (i+1) where
 len:=by simpa using hr.len.trans h.len
 ok:=hr.ok.set hr.c0 hr.c1
 zero:=fun s hs=>by
  rw [fJ (by omega),hr.same s (by omega)]
  exact h.zero s (by omega)
 val:=by
  have hlen:=hr.len.trans h.len
  rw [show i+1+b.length=(i+b.length)+1 by omega,eK,Nat.zero_add,eU (by omega),vQ (.inr (by omega)),uV,eK,Nat.zero_add]
  have h1:=hr.val
  have h2:=h.val
  rw [uV,Nat.zero_add] at h2
  have h3:W out' 0 i=W out 0 i:=aBr fun s hs=>by
   rw [Nat.zero_add];exact hr.same s (.inl hs)
  rw [h3,z4]
  unfold vD at *
  grind
theorem aG2 {x y:aZ} (ha:lA x.d) (hb:lA y.d) (hL:x.d.length+y.d.length≤9000000000000):∀(t i:Nat) (out:List Int),i+t=x.d.length→aBM x.d y.d out i→
  ∃out',aBM x.d y.d out' x.d.length∧tQ (fun K k=>gA K x y k out (i:Int)) out'
 |0,i,out,hi,hP=>by
  have:i=x.d.length:=by omega
  subst this
  refine⟨out,hP,tQ.of 1 fun K n hn=>?_⟩
  obtain⟨n',rfl,_⟩:=cU (n:=0) hn
  simp [gA]
 |t+1,i,out,hi,hP=>by
  have ha':=ha i
  have hlo:=hP.len
  obtain⟨o,c,h1,h2⟩:=aHk hb ha'.1 ha'.2 (by omega) (by omega) y.d.length 0 out 0 (by omega) hP.row
  have hlo2:=h1.len
  obtain⟨r,h3,h4⟩:=aG2 ha hb hL t (i+1) _ (by omega) (hP.next (by omega) h1)
  refine⟨r,h3,tQ.step ?_⟩
  have e1:decide ((i:Int)<(x.d.length:Int))=true:=dT (by omega)
  have e2:=dU (xs:=x.d) (i:=i) (by omega)
  have e3:bW ((i:Int)+1)=some ((i+1:Nat):Int):=yB (m:=0) (by omega) (by omega)
  have e4:bW ((i:Int)+(y.d.length:Int))=some ((i+y.d.length:Nat):Int):=yB (m:=0) (by omega) (by omega)
  have e5:=dU (xs:=o) (i:=i+y.d.length) (by omega)
  have e6:qC o ((i+y.d.length:Nat):Int) c=some (o.set (i+y.d.length) c):=sC (by omega)
  simp only [gA,e1,e2,d8,oB]
  refine tQ.bind (x:=(o,c)) (f:=fun K=>gV K y (i:Int) (x.d.getD i 0) K out 0 0) ⟨y.d.length+1,fun K hK=>h2 K K (by omega)⟩ ?_
  simp only [pZ,e3,e4,e5,e6,oB]
  exact h4
theorem aEc (x y:Int):(if(decide (x<0) != decide (y<0))=true then -((x.natAbs:Int)*y.natAbs) else(x.natAbs:Int)*y.natAbs)=x*y:=by
 by_cases hx:x<0<;>by_cases hy:y<0
 ·rw [dT hx,dT hy,show(x.natAbs:Int)=-x by omega,show(y.natAbs:Int)=-y by omega];simp [Int.neg_mul_neg]
 ·rw [dT hx,dF hy,show(x.natAbs:Int)=-x by omega,show(y.natAbs:Int)=y by omega];simp [Int.neg_mul]
 ·rw [dF hx,dT hy,show(x.natAbs:Int)=x by omega,show(y.natAbs:Int)=-y by omega];simp [Int.mul_neg]
 ·rw [dF hx,dF hy,show(x.natAbs:Int)=x by omega,show(y.natAbs:Int)=y by omega];simp
theorem aIQ {x y:Int} (hL:dl x.natAbs+dl y.natAbs≤60000000000):Ev (fun K=>(bW (((Z x).d.length:Int)+((Z y).d.length:Int))).bind fun v16=>(vK v16 0).bind fun x18=>(gA K (Z x) (Z y) K x18 0).bind fun x37=>p8 K (Z x) (Z y) x37) (Z (x*y)):=by
 have dx:=dA x.natAbs
 have dy:=dA y.natAbs
 have lx:(dD x.natAbs).length=dl x.natAbs:=rfl
 have ly:(dD y.natAbs).length=dl y.natAbs:=rfl
 obtain⟨r,h1,h2⟩:=aG2 (x:=Z x) (y:=Z y) dx dy (by rw [rE,rE];omega) (Z x).d.length 0 _ (by omega) (aBM.start _ _)
 have e1:bW (((Z x).d.length:Int)+((Z y).d.length:Int))=some (((Z x).d.length+(Z y).d.length:Nat):Int):=yB (m:=0) (by omega) (by rw [rE,rE];omega)
 have e2:vK (((Z x).d.length+(Z y).d.length:Nat):Int) (0:Int)=some (List.replicate ((Z x).d.length+(Z y).d.length) 0):=yV (by rw [rE,rE];omega)
 simp only [e1,e2,oB]
 refine Ev.bind h2.ev ?_
 have h3:=vI ((Z x).neg != (Z y).neg) h1.ok (by rw [h1.len,rE,rE];omega)
 unfold p8
 refine Ev.bind h3 ?_
 have hv:vD r=x.natAbs*y.natAbs:=by
  have:=h1.val
  rw [←h1.len] at this
  have vx:=eH x.natAbs
  have vy:=eH y.natAbs
  unfold vD at *
  rw [this]
  show W (dD x.natAbs) 0 (dD x.natAbs).length*W (dD y.natAbs) 0 (dD y.natAbs).length=_
  rw [vx,vy]
 rw [s5,sR,sR,hv]
 have:(if(decide (x<0) != decide (y<0))=true then -((((x.natAbs:Int)*y.natAbs).toNat:Nat):Int) else((((x.natAbs:Int)*y.natAbs).toNat:Nat):Int))=x*y:=by
  have h0:0≤(x.natAbs:Int)*y.natAbs:=Int.mul_nonneg (by omega) (by omega)
  rw [Int.toNat_of_nonneg h0]
  exact aEc x y
 rw [this]
 exact Ev.pure _
theorem aDE (K:Nat) (y:aZ) (x v:Int):∀(k:Nat) (s:List Int) (c i:Int),mT K y x v k s c i=gV K y x v k s c i
 |0,_,_,_=>rfl
 |k+1,s,c,i=>by simp only [mT,gV,aDE K y x v k]
theorem aDU (K:Nat) (x y:aZ):∀(k:Nat) (s:List Int) (i:Int),kR K x y k s i=gA K x y k s i
 |0,_,_=>rfl
 |k+1,s,i=>by simp only [kR,gA,rJ,pZ,aDE,aDU K x y k]
theorem zJ {n:Nat} (h:(dD n).length=1):(dD n).getD 0 0=n∧n<1000000000:=by
 have h1:=eH n
 unfold vD at h1
 rw [h,W1] at h1
 have:=dA n 0
 omega
theorem w5 {x y:Int} (hL:dl x.natAbs+dl y.natAbs≤60000000000):Ev (fun K=>dH K (Z x) (Z y)) (Z (x*y)):=by
 have hc:=aIQ hL
 unfold dH
 by_cases h1:(Z x).d.length=1
 ·have e1:(((Z x).d.length:Int)==1)=true:=qT (by omega)
  simp only [e1,d8]
  by_cases h2:(Z y).d.length=1
  ·have e2:(((Z y).d.length:Int)==1)=true:=qT (by omega)
   obtain⟨a1,a2⟩:=zJ h1
   obtain⟨b1,b2⟩:=zJ h2
   have r1:=dU (xs:=(Z x).d) (i:=0) (by omega)
   have r2:=dU (xs:=(Z y).d) (i:=0) (by omega)
   simp only [Int.natCast_zero] at r1 r2
   rw [Z_d] at r1 r2
   rw [a1] at r1
   rw [b1] at r2
   have hb:=aC7 (x:=(x.natAbs:Int)) (y:=(y.natAbs:Int)) (by omega) (by omega) (by omega) (by omega)
   have e3:wu (IntKind.u64.wrap (x.natAbs:Int)*IntKind.u64.wrap (y.natAbs:Int))=((x.natAbs*y.natAbs:Nat):Int):=by
    rw [IntWalk.u64_in _ ⟨by omega,by omega⟩,IntWalk.u64_in _ ⟨by omega,by omega⟩,aKj hb.1 (by omega),Int.natCast_mul]
   have hb':x.natAbs*y.natAbs≤18446744073709551615:=by
    have:((x.natAbs*y.natAbs:Nat):Int)=x.natAbs*y.natAbs:=Int.natCast_mul _ _
    omega
   refine Ev.of fun K=>?_
   rw [Z_d] at e2
   simp only [e2,d8,r1,r2,Z_d,sR,oB,e3,rL _ hb']
   rw [s5]
   congr 2
   rw [Int.natCast_mul]
   exact aEc x y
  ·have e2:(((Z y).d.length:Int)==1)=false:=qF (by omega)
   simp only [e2,dS]
   exact hc
 ·have e1:(((Z x).d.length:Int)==1)=false:=qF (by omega)
  simp only [e1,dS,aDU]
  exact hc
end Go.Proofs.YtcjdedkdoagifaaGreat
set_option linter.unusedVariables false
namespace Go.Proofs.YtcjdedkdoagifaaGreat
/-- The guess is too great. -/
theorem aFc {P V X Y w Q g:Int} (hP:0<P) (hV1:X*P≤V) (hw2:w<(Y+1)*P) (hQ1:Q*V≤w) (hg:0≤g) (h:Y+1≤g*X) (hV:0≤V):Q<g:=by
 rcases Int.lt_or_le Q g with h1|h1
 ·exact h1
 ·exfalso
  have a:g*V≤Q*V:=Int.mul_le_mul_of_nonneg_right h1 hV
  have b:(Y+1)*P≤g*X*P:=Int.mul_le_mul_of_nonneg_right h (by omega)
  have c:g*(X*P)≤g*V:=Int.mul_le_mul_of_nonneg_left hV1 hg
  rw [Int.mul_assoc] at b
  omega
theorem aFi {P V X Y w Q g:Int} (hP:0<P) (hV2:V<(X+1)*P) (hw1:Y*P≤w) (hQ2:w<(Q+1)*V) (hg:g≤X) (h:g*X≤Y) (hQ:0≤Q) (hV:0≤V):g≤Q+1:=by
 rcases Int.lt_or_le (Q+1) g with h1|h1
 ·exfalso
  have a:(Q+1)*V≤(g-1)*V:=Int.mul_le_mul_of_nonneg_right (by omega) hV
  have b:(g-1)*V≤(g-1)*((X+1)*P):=Int.mul_le_mul_of_nonneg_left (by omega) (by omega)
  have c:g*X*P≤Y*P:=Int.mul_le_mul_of_nonneg_right h (by omega)
  have d:(g-1)*((X+1)*P)=g*X*P+(g-X-1)*P:=by grind
  have e:(g-X-1)*P≤(-1)*P:=Int.mul_le_mul_of_nonneg_right (by omega) (by omega)
  omega
 ·exact h1
theorem s6 {a b c:Int} (hc:0<c) (h:a*c<b*c):a<b:=Int.lt_of_mul_lt_mul_right h (by omega)
theorem aDW {b v u:List Int} {N j:Nat} {P V w Q v1 v2 u2 top:Int} (hb:b.length=N+2) (hb2:b.length≤9000000000000) (hvl:v.length=N+2) (huj:j+N<u.length) (hj:j≤9000000000000) (e1:v.getD (N+1) 0=v1) (e2:v.getD N 0=v2) (e3:u.getD (j+N) 0=u2)
  (hP:0<P) (hV:0≤V) (hv1:500000000≤v1) (hv1':v1<1000000000) (hv2:0≤v2) (hv2':v2<1000000000) (hu2:0≤u2) (hu2':u2<1000000000)
  (hV1:(v1*1000000000+v2)*P≤V) (hV2:V<(v1*1000000000+v2+1)*P) (hw1:(top*1000000000+u2)*P≤w) (hw2:w<(top*1000000000+u2+1)*P) (hwV:w<V*1000000000) (hQ:0≤Q) (hQ1:Q*V≤w) (hQ2:w<(Q+1)*V):
  ∀(n:Nat) (g r:Int),0≤r→r<1000000000→1000000000≤r+n*500000000→g*v1+r=top→Q≤g→g≤1000000001→
  ∃g',(Q≤g'∧g'≤Q+1∧g'<1000000000)∧∀K k,n<k→eV K b v u (j:Int) k g r=some g'
 |0,g,r,h0,h1,h2,_,_,_=>by omega
 |n+1,g,r,h0,h1,h2,h3,h4,h5=>by
  have QB:Q<1000000000:=by
   have hVpos:0<V:=by
    rcases Int.lt_or_le 0 V with h|h
    ·exact h
    ·have:V=0:=by omega
     subst this
     omega
   exact s6 hVpos (by rw [Int.mul_comm 1000000000 V];omega)
  have htop:top≤v1*1000000000+v2:=by
   have t1:(top*1000000000)*P≤(top*1000000000+u2)*P:=Int.mul_le_mul_of_nonneg_right (by omega) (by omega)
   have t2:(top*1000000000)*P<((v1*1000000000+v2+1)*1000000000)*P:=by
    have:(v1*1000000000+v2+1)*1000000000*P=(v1*1000000000+v2+1)*P*1000000000:=by grind
    rw [this]
    omega
   have t3:=s6 hP t2
   omega
  have c0:bW ((b.length:Int)-1)=some ((N+1:Nat):Int):=yB (m:=0) (by omega) (by omega)
  have c1:=dU (xs:=v) (i:=N+1) (by omega)
  rw [e1] at c1
  have c2:bW ((b.length:Int)-2)=some ((N:Nat):Int):=yB (m:=0) (by omega) (by omega)
  have c3:=dU (xs:=v) (i:=N) (by omega)
  rw [e2] at c3
  have c4:bW ((j:Int)+(b.length:Int))=some ((j+N+2:Nat):Int):=yB (m:=0) (by omega) (by omega)
  have c5:bW (((j+N+2:Nat):Int)-2)=some ((j+N:Nat):Int):=yB (m:=0) (by omega) (by omega)
  have c6:=dU (xs:=u) (i:=j+N) huj
  rw [e3] at c6
  have c7:bW (r+v1)=some (r+v1):=oA (by omega)
  have c8:bW (g-1)=some (g-1):=oA (by omega)
  have less:Q<g→∃g',(Q≤g'∧g'≤Q+1∧g'<1000000000)∧∀K k,n<k→(bif decide (1000000000≤r+v1) then some (g-1) else eV K b v u (j:Int) k (g-1) (r+v1))=some g':=by
   intro hlt
   have h3':(g-1)*v1+(r+v1)=top:=by rw [Int.sub_mul];omega
   by_cases hr:1000000000≤r+v1
   ·have hg1:(g-1)*v1<1000000000*v1:=by omega
    have hg2:g-1<1000000000:=s6 (by omega) hg1
    have hg3:(g-1)*(v1*1000000000+v2)≤top*1000000000+u2:=by
     have m1:(g-1)*v2≤999999999*999999999:=Int.mul_le_mul (by omega) (by omega) hv2 (by omega)
     have m2:(g-1)*(v1*1000000000+v2)=((g-1)*v1)*1000000000+(g-1)*v2:=by grind
     rw [m2]
     omega
    refine⟨g-1,⟨by omega,aFi hP hV2 hw1 hQ2 (by omega) hg3 hQ hV,hg2⟩,fun K k hk=>?_⟩
    rw [dT hr,d8]
   ·obtain⟨g',i1,i2⟩:=aDW hb hb2 hvl huj hj e1 e2 e3 hP hV hv1 hv1' hv2 hv2' hu2 hu2' hV1 hV2 hw1 hw2 hwV hQ hQ1 hQ2 n (g-1) (r+v1) (by omega) (by omega) (by omega) h3' (by omega) (by omega)
    refine⟨g',i1,fun K k hk=>?_⟩
    rw [dF hr,dS]
    exact i2 K k hk
  by_cases hg:1000000000≤g
  ·obtain⟨g',i1,i2⟩:=less (by omega)
   refine⟨g',i1,fun K k hk=>?_⟩
   obtain⟨k',rfl,_⟩:=cU hk
   simp only [eV,dT hg,d8,oB,c0,c1,c7,c8]
   exact i2 K k' (by omega)
  ·have m:=aC7 (x:=g) (y:=v2) (by omega) (by omega) hv2 hv2'
   have c9:bW (g*v2)=some (g*v2):=oA (by omega)
   have c10:bW (r*1000000000)=some (r*1000000000):=oA (by omega)
   have c11:bW (r*1000000000+u2)=some (r*1000000000+u2):=oA (by omega)
   have m2:g*(v1*1000000000+v2)=(g*v1)*1000000000+g*v2:=by grind
   by_cases hc:r*1000000000+u2<g*v2
   ·obtain⟨g',i1,i2⟩:=less (aFc hP hV1 hw2 hQ1 (by omega) (by rw [m2];omega) hV)
    refine⟨g',i1,fun K k hk=>?_⟩
    obtain⟨k',rfl,_⟩:=cU hk
    simp only [eV,dF hg,dS,d8,oB,c0,c1,c2,c3,c4,c5,c6,c7,c8,c9,c10,c11,dT hc]
    exact i2 K k' (by omega)
   ·refine⟨g,⟨h4,aFi hP hV2 hw1 hQ2 (by omega) (by rw [m2];omega) hQ hV,by omega⟩,fun K k hk=>?_⟩
    obtain⟨k',rfl,_⟩:=cU hk
    simp only [eV,dF hg,dS,oB,c2,c3,c4,c5,c6,c9,c10,c11,dF hc]
structure aIk (u0 v:List Int) (j:Nat) (g:Int) (u:List Int) (c:Int) (i:Nat):Prop where
 len:u.length=u0.length
 ok:lA u
 c0:0≤c
 c1:c<1000000000
 same:∀s,s<j∨j+i≤s→u.getD s 0=u0.getD s 0
 val:W u j i-c*PB i=W u0 j i-g*W v 0 i
theorem aIk.step {u0 v u:List Int} {j i:Nat} {g c x c':Int} (h:aIk u0 v j g u c i) (hl:j+i<u0.length) (hx0:0≤x) (hx1:x<1000000000) (h0:0≤c') (h1:c'<1000000000) (hv:x=u.getD (j+i) 0-g*v.getD i 0-c+c'*1000000000):aIk u0 v j g (u.set (j+i) x) c' (i+1) where
 len:=by simpa using h.len
 ok:=h.ok.set hx0 hx1
 c0:=h0
 c1:=h1
 same:=fun s hs=>by rw [fJ (by omega)];exact h.same s (by omega)
 val:=by
  have hlen:=h.len
  have hs:=h.same (j+i) (.inr (Nat.le_refl _))
  have hval:=h.val
  rw [eK,eK,eK,eU (by omega),vQ (.inr (by omega)),Nat.zero_add]
  simp only [PB]
  rw [hs] at hv
  grind
theorem aBP {b v u0:List Int} {j:Nat} {g:Int} (hg0:0≤g) (hg1:g<1000000000) (hv:lA v) (hvl:b.length≤v.length) (hl:j+b.length≤u0.length) (hL:u0.length≤9000000000000):∀(t i:Nat) (u:List Int) (c:Int),i+t=b.length→aIk u0 v j g u c i→
  ∃u' c',aIk u0 v j g u' c' b.length∧∀K k,t<k→fN K b v (j:Int) g k u c (i:Int)=some (u',c')
 |0,i,u,c,hi,hP=>by
  have:i=b.length:=by omega
  subst this
  refine⟨u,c,hP,fun K k hk=>?_⟩
  obtain⟨k',rfl,_⟩:=cU hk
  simp [fN]
 |t+1,i,u,c,hi,hP=>by
  have hlen:=hP.len
  have c0:=hP.c0
  have c1:=hP.c1
  have hu:=hP.ok (j+i)
  have hvi:=hv i
  have m:=aC7 hg0 hg1 hvi.1 hvi.2
  have e1:decide ((i:Int)<(b.length:Int))=true:=dT (by omega)
  have e2:bW ((i:Int)+(j:Int))=some ((j+i:Nat):Int):=yB (m:=0) (by omega) (by omega)
  have e3:=dU (xs:=u) (i:=j+i) (by omega)
  have e4:=dU (xs:=v) (i:=i) (by omega)
  have e5:bW (g*v.getD i 0)=some (g*v.getD i 0):=oA (by omega)
  have e6:bW (u.getD (j+i) 0-g*v.getD i 0)=some (u.getD (j+i) 0-g*v.getD i 0):=oA (by omega)
  have e8:bW ((i:Int)+1)=some ((i+1:Nat):Int):=yB (m:=0) (by omega) (by omega)
  have e9:∀x,qC u ((j+i:Nat):Int) x=some (u.set (j+i) x):=fun x=>sC (by omega)
  obtain⟨z,hz⟩:∃z,u.getD (j+i) 0-g*v.getD i 0-c=z:=⟨_,rfl⟩
  have e7:bW (u.getD (j+i) 0-g*v.getD i 0-c)=some z:=by rw [hz];exact oA (by omega)
  by_cases hneg:z<0
  ·have f1:bW (-z)=some (-z):=oA (by omega)
   have f2:bW (-z+1000000000)=some (-z+1000000000):=oA (by omega)
   have f3:bW (-z+1000000000-1)=some (-z+1000000000-1):=oA (by omega)
   have f4:vW (-z+1000000000-1) 1000000000=some ((-z+1000000000-1)/1000000000):=sA (by omega) (by omega) (by omega)
   have f5:bW ((-z+1000000000-1)/1000000000*1000000000)=some ((-z+1000000000-1)/1000000000*1000000000):=oA (by omega)
   have f6:bW (z+(-z+1000000000-1)/1000000000*1000000000)=some (z+(-z+1000000000-1)/1000000000*1000000000):=oA (by omega)
   obtain⟨u',c',h1,h2⟩:=aBP hg0 hg1 hv hvl hl hL t (i+1) _ _ (by omega) (hP.step (x:=z+(-z+1000000000-1)/1000000000*1000000000) (c':=(-z+1000000000-1)/1000000000) (by omega) (by omega) (by omega) (by omega) (by omega) (by omega))
   refine⟨u',c',h1,fun K k hk=>?_⟩
   obtain⟨k',rfl,_⟩:=cU hk
   simp only [fN,e1,e2,e3,e4,e5,e6,e7,e8,e9,f1,f2,f3,f4,f5,f6,dT hneg,d8,oB]
   exact h2 K k' (by omega)
  ·obtain⟨u',c',h1,h2⟩:=aBP hg0 hg1 hv hvl hl hL t (i+1) _ _ (by omega) (hP.step (x:=z) (c':=0) (by omega) (by omega) (by omega) (by omega) (by omega) (by omega))
   refine⟨u',c',h1,fun K k hk=>?_⟩
   obtain⟨k',rfl,_⟩:=cU hk
   simp only [fN,e1,e2,e3,e4,e5,e6,e7,e8,e9,dF hneg,d8,dS,oB]
   exact h2 K k' (by omega)
structure aFu (u0 v:List Int) (j:Nat) (u:List Int) (c:Int) (i:Nat):Prop where
 len:u.length=u0.length
 ok:∀s,s<j+v.length→0≤u.getD s 0∧u.getD s 0<1000000000
 c0:0≤c
 c1:c≤1
 same:∀s,s<j∨j+i≤s→u.getD s 0=u0.getD s 0
 val:W u j i+c*PB i=W u0 j i+W v 0 i
theorem aFu.step {u0 v u:List Int} {j i:Nat} {c x c':Int} (h:aFu u0 v j u c i) (hl:j+i<u0.length) (hx0:0≤x) (hx1:x<1000000000) (h0:0≤c') (h1:c'≤1) (hv:x+c'*1000000000=u.getD (j+i) 0+v.getD i 0+c):aFu u0 v j (u.set (j+i) x) c' (i+1) where
 len:=by simpa using h.len
 ok:=fun s hs=>by
  rw [xM];split
  ·exact⟨hx0,hx1⟩
  ·exact h.ok s hs
 c0:=h0
 c1:=h1
 same:=fun s hs=>by rw [fJ (by omega)];exact h.same s (by omega)
 val:=by
  have hlen:=h.len
  have hs:=h.same (j+i) (.inr (Nat.le_refl _))
  have hval:=h.val
  rw [eK,eK,eK,eU (by omega),vQ (.inr (by omega)),Nat.zero_add]
  simp only [PB]
  rw [hs] at hv
  grind
theorem aD0 {b v u0:List Int} {j:Nat} (hv:lA v) (hvl:b.length=v.length) (hl:j+b.length≤u0.length) (hL:u0.length≤9000000000000):∀(t i:Nat) (u:List Int) (c:Int),i+t=b.length→aFu u0 v j u c i→
  ∃u' c',aFu u0 v j u' c' b.length∧∀K k,t<k→iP K b v (j:Int) k u c (i:Int)=some (u',c')
 |0,i,u,c,hi,hP=>by
  have:i=b.length:=by omega
  subst this
  refine⟨u,c,hP,fun K k hk=>?_⟩
  obtain⟨k',rfl,_⟩:=cU hk
  simp [iP]
 |t+1,i,u,c,hi,hP=>by
  have hlen:=hP.len
  have c0:=hP.c0
  have c1:=hP.c1
  have hu:=hP.ok (j+i) (by omega)
  have hvi:=hv i
  have e1:decide ((i:Int)<(b.length:Int))=true:=dT (by omega)
  have e2:bW ((i:Int)+(j:Int))=some ((j+i:Nat):Int):=yB (m:=0) (by omega) (by omega)
  have e3:=dU (xs:=u) (i:=j+i) (by omega)
  have e4:=dU (xs:=v) (i:=i) (by omega)
  have e5:bW (u.getD (j+i) 0+v.getD i 0)=some (u.getD (j+i) 0+v.getD i 0):=oA (by omega)
  have e6:bW (u.getD (j+i) 0+v.getD i 0+c)=some (u.getD (j+i) 0+v.getD i 0+c):=oA (by omega)
  have e7:vM (u.getD (j+i) 0+v.getD i 0+c) 1000000000=some ((u.getD (j+i) 0+v.getD i 0+c)%1000000000):=nR (by omega) (by omega)
  have e9:vW (u.getD (j+i) 0+v.getD i 0+c) 1000000000=some ((u.getD (j+i) 0+v.getD i 0+c)/1000000000):=sA (by omega) (by omega) (by omega)
  have e8:bW ((i:Int)+1)=some ((i+1:Nat):Int):=yB (m:=0) (by omega) (by omega)
  have e10:∀x,qC u ((j+i:Nat):Int) x=some (u.set (j+i) x):=fun x=>sC (by omega)
  obtain⟨u',c',h1,h2⟩:=aD0 hv hvl hl hL t (i+1) _ _ (by omega) (hP.step (x:=(u.getD (j+i) 0+v.getD i 0+c)%1000000000) (c':=(u.getD (j+i) 0+v.getD i 0+c)/1000000000) (by omega) (by omega) (by omega) (by omega) (by omega) (by omega))
  refine⟨u',c',h1,fun K k hk=>?_⟩
  obtain⟨k',rfl,_⟩:=cU hk
  simp only [iP,e1,e2,e3,e4,e5,e6,e7,e8,e9,e10,d8,oB]
  exact h2 K k' (by omega)
structure aDV (m n:Nat) (v:List Int) (S:Int) (q u:List Int) (J:Nat):Prop where
 ql:q.length=m-n+1
 ul:u.length=m+1
 uok:lA u
 qok:∀s,J≤s→0≤q.getD s 0∧q.getD s 0<1000000000
 lt:vD u<vD v*PB J
 val:S=vD v*(PB J*W q J (m-n+1-J))+vD u
theorem aGp {u:List Int} {k c:Nat} (hu:lA u) (h:W u 0 (k+c)<PB k):W u 0 (k+c)=W u 0 k:=by
 rw [uV] at h ⊢
 have h1:=(yO (hu.dr 0 k)).1
 have h2:=(yO (hu.dr (0+k) c)).1
 have hp:=qY k
 rcases Int.lt_or_le 0 (W u (0+k) c) with h3|h3
 ·have:PB k*1≤PB k*W u (0+k) c:=Int.mul_le_mul_of_nonneg_left h3 (by omega)
  omega
 ·have:W u (0+k) c=0:=by omega
  rw [this];simp
theorem aDV.next {m n j:Nat} {v q u u4:List Int} {S Q w:Int} (h:aDV m n v S q u (j+1)) (hj:j+1≤m-n+1) (hnm:n≤m) (hv:lA v) (hvl:v.length=n) (hw:W u j (n+1)=w) (hQ:0≤Q) (hQB:Q<1000000000) (hQ1:Q*vD v≤w) (hQ2:w<(Q+1)*vD v)
  (h1:u4.length=m+1) (h2:lA u4) (h3:∀s,s<j∨j+n<s→u4.getD s 0=u.getD s 0) (h4:W u4 j (n+1)=w-Q*vD v):aDV m n v S (q.set j Q) u4 j:=by
 have hV:=hv.lt
 rw [hvl] at hV
 have hR:W u 0 (m+1)=W u 0 j+PB j*w:=by
  have hlt:=h.lt
  unfold vD at hlt hV
  rw [h.ul] at hlt
  have hb:W v 0 v.length*PB (j+1)≤PB n*PB (j+1):=Int.mul_le_mul_of_nonneg_right (by omega) (by have:=qY (j+1);omega)
  rw [←z4,show n+(j+1)=j+(n+1) by omega] at hb
  obtain⟨c,hc⟩:∃c,m+1=(j+(n+1))+c:=⟨m-j-n,by omega⟩
  rw [hc] at hlt ⊢
  rw [aGp h.uok (by omega),uV,Nat.zero_add,hw]
 have hR4:W u4 0 (m+1)=W u 0 j+PB j*(w-Q*vD v):=by
  obtain⟨c,hc⟩:∃c,m+1=(j+(n+1))+c:=⟨m-j-n,by omega⟩
  have hz:W u4 (j+(n+1)) c=W u (j+(n+1)) c:=aBr fun s _=>h3 _ (.inr (by omega))
  have hz0:PB (j+(n+1))*W u (j+(n+1)) c=0:=by
   have e:=hR
   rw [hc,uV,uV u 0 j,Nat.zero_add,Nat.zero_add,hw] at e
   omega
  have hl:W u4 0 j=W u 0 j:=aBr fun s hs=>by rw [Nat.zero_add];exact h3 s (.inl hs)
  rw [hc,uV,uV u4 0 j,Nat.zero_add,Nat.zero_add,hz,hz0,hl,h4]
  omega
 have hlo:=(yO (h.uok.dr 0 j)).2
 have hlo0:=(yO (h.uok.dr 0 j)).1
 refine⟨by simpa using h.ql,h1,h2,fun s hs=>?_,?_,?_⟩
 ·rw [xM]
  by_cases e:s=j
  ·rw [if_pos ⟨e,by have:=h.ql;omega⟩];exact⟨hQ,hQB⟩
  ·rw [if_neg (fun x=>e x.1)];exact h.qok s (by omega)
 ·show W u4 0 u4.length<_
  rw [h1,hR4]
  have:PB j*(w-Q*vD v)≤PB j*(vD v-1):=Int.mul_le_mul_of_nonneg_left (by rw [Int.add_mul] at hQ2;omega) (by omega)
  have e:PB j*(vD v-1)=vD v*PB j-PB j:=by grind
  omega
 ·have hval:=h.val
  have e1:vD u=W u 0 (m+1):=by unfold vD;rw [h.ul]
  have e2:vD u4=W u4 0 (m+1):=by unfold vD;rw [h1]
  rw [e1,hR] at hval
  have hql:=h.ql
  rw [e2,hR4,show m-n+1-j=(m-n+1-(j+1))+1 by omega,aAX,eU (by omega),vQ (.inl (by omega))]
  simp only [PB] at hval
  rw [hval]
  grind
theorem aC9 {b v:List Int} {N m:Nat} {S:Int} (hb:b.length=N+2) (hL:m≤900000000000) (hnm:N+2≤m) (hv:lA v) (hvl:v.length=N+2) (hv1:500000000≤v.getD (N+1) 0):∀(J:Nat) (q u:List Int),J≤m-(N+2)+1→aDV m (N+2) v S q u J→
  ∃q' u',aDV m (N+2) v S q' u' 0∧tQ (fun K k=>fG K b v k q u ((J:Int)-1)) (q',u')
 |0,q,u,_,h=>⟨q,u,h,tQ.of 1 fun K k hk=>by
   obtain⟨k',rfl,_⟩:=cU (n:=0) hk
   simp [fG]⟩
 |j+1,q,u,hJ,h=>by
  have hul:=h.ul
  have hql:=h.ql
  obtain⟨v1,e1⟩:∃x,v.getD (N+1) 0=x:=⟨_,rfl⟩
  obtain⟨v2,e2⟩:∃x,v.getD N 0=x:=⟨_,rfl⟩
  obtain⟨u2,e3⟩:∃x,u.getD (j+N) 0=x:=⟨_,rfl⟩
  obtain⟨u1,e4⟩:∃x,u.getD (j+N+1) 0=x:=⟨_,rfl⟩
  obtain⟨u0,e5⟩:∃x,u.getD (j+N+2) 0=x:=⟨_,rfl⟩
  have d1:=hv (N+1);have d2:=hv N;have d3:=h.uok (j+N);have d4:=h.uok (j+N+1);have d5:=h.uok (j+N+2)
  rw [e1] at d1 hv1;rw [e2] at d2;rw [e3] at d3;rw [e4] at d4;rw [e5] at d5
  have hP:=qY N
  have hVd:vD v=W v 0 N+(v1*1000000000+v2)*PB N:=by
   unfold vD
   rw [hvl,uV,Nat.zero_add,W2,e1,e2,Int.mul_comm (PB N)];grind
  have hwl:=yO (h.uok.dr j N)
  have hvl2:=yO (hv.dr 0 N)
  obtain⟨w,hw⟩:∃x,W u j (N+2+1)=x:=⟨_,rfl⟩
  have hwd:w=W u j N+((u0*1000000000+u1)*1000000000+u2)*PB N:=by
   rw [←hw,show N+2+1=N+3 by omega,uV,aAX,aAX,W1,e3,e4,show j+N+1+1=j+N+2 by omega,e5];grind
  have hVn:=hv.nonneg
  have hVpos:0<vD v:=by
   have:1*PB N≤(v1*1000000000+v2)*PB N:=Int.mul_le_mul_of_nonneg_right (by omega) (by omega)
   omega
  obtain⟨V,hV⟩:∃x,vD v=x:=⟨_,rfl⟩
  have hVlt:=hv.lt
  rw [hvl] at hVlt
  rw [hV] at hVd hVpos hVn hVlt
  have hwV:w<V*1000000000:=by
   have hlt:=h.lt
   rw [hV] at hlt
   have hb':V*PB (j+1)≤PB (N+2)*PB (j+1):=Int.mul_le_mul_of_nonneg_right (by omega) (by have:=qY (j+1);omega)
   rw [←z4,show N+2+(j+1)=j+(N+2+1) by omega] at hb'
   obtain⟨c,hc⟩:∃c,m+1=(j+(N+2+1))+c:=⟨m-j-(N+2),by omega⟩
   unfold vD at hlt
   rw [hul,hc] at hlt
   rw [aGp h.uok (by omega),uV,Nat.zero_add,hw] at hlt
   have h0:=(yO (h.uok.dr 0 j)).1
   simp only [PB] at hlt
   have:w*PB j<V*1000000000*PB j:=by
    rw [Int.mul_assoc,Int.mul_comm 1000000000,Int.mul_comm w];omega
   exact s6 (qY j) this
  have hw0:0≤w:=by rw [←hw];exact(yO (h.uok.dr j _)).1
  obtain⟨Q,hQ⟩:∃x,w/V=x:=⟨_,rfl⟩
  have hQ0:0≤Q:=by rw [←hQ];exact Int.ediv_nonneg hw0 (by omega)
  have hdm:=Int.mul_ediv_add_emod w V
  have hm0:=Int.emod_nonneg w (show V≠0 by omega)
  have hm1:=Int.emod_lt_of_pos w hVpos
  rw [hQ] at hdm
  have hQ1:Q*V≤w:=by rw [Int.mul_comm];omega
  have hQ2:w<(Q+1)*V:=by rw [Int.add_mul,Int.mul_comm];omega
  have hQB:Q<1000000000:=s6 hVpos (by rw [Int.mul_comm 1000000000 V];omega)
  obtain⟨top,htop⟩:∃x,u0*1000000000+u1=x:=⟨_,rfl⟩
  have hV1:(v1*1000000000+v2)*PB N≤V:=by omega
  have hV2:V<(v1*1000000000+v2+1)*PB N:=by rw [Int.add_mul,Int.one_mul];omega
  have hw1:(top*1000000000+u2)*PB N≤w:=by rw [←htop];omega
  have hw2:w<(top*1000000000+u2+1)*PB N:=by rw [←htop,Int.add_mul _ 1,Int.one_mul];omega
  have htlim:top≤v1*1000000000+v2:=by
   have t1:(top*1000000000)*PB N≤(top*1000000000+u2)*PB N:=Int.mul_le_mul_of_nonneg_right (by omega) (by omega)
   have t2:(top*1000000000)*PB N<((v1*1000000000+v2+1)*1000000000)*PB N:=by
    have:(v1*1000000000+v2+1)*1000000000*PB N=(v1*1000000000+v2+1)*PB N*1000000000:=by grind
    rw [this]
    omega
   have t3:=s6 hP t2
   omega
  obtain⟨g0,hg0⟩:∃x,top/v1=x:=⟨_,rfl⟩
  obtain⟨r0,hr0⟩:∃x,top%v1=x:=⟨_,rfl⟩
  have hdm2:=Int.mul_ediv_add_emod top v1
  have hr1:=Int.emod_nonneg top (show v1≠0 by omega)
  have hr2:=Int.emod_lt_of_pos top (show 0<v1 by omega)
  rw [hg0,hr0] at hdm2
  rw [hr0] at hr1 hr2
  have hg00:0≤g0:=by rw [←hg0];exact Int.ediv_nonneg (by omega) (by omega)
  have hgq:Q<g0+1:=by
   refine aFc hP hV1 hw2 hQ1 (by omega) ?_ (by omega)
   have m1:(g0+1)*(v1*1000000000+v2)=(v1*g0+v1)*1000000000+(g0+1)*v2:=by grind
   have m2:0≤(g0+1)*v2:=Int.mul_nonneg (by omega) d2.1
   rw [m1]
   omega
  have hgm:g0≤1000000001:=by
   have:g0*v1<1000000002*v1:=by rw [Int.mul_comm g0];omega
   have:=s6 (show 0<v1 by omega) this
   omega
  obtain⟨g,⟨hg1,hg2,hg3⟩,hgF⟩:=aDW (b:=b) (v:=v) (u:=u) (j:=j) hb (by omega) hvl (by omega) (by omega) e1 e2 e3 hP (Int.le_of_lt hVpos) hv1 d1.2 d2.1 d2.2 d3.1 d3.2 hV1 hV2 hw1 hw2 hwV hQ0 hQ1 hQ2 2 g0 r0 hr1 (by omega) (by omega) (by rw [Int.mul_comm];omega) (by omega) hgm
  obtain⟨u',c',hS,hSF⟩:=aBP (b:=b) (v:=v) (u0:=u) (j:=j) (g:=g) (by omega) hg3 hv (by omega) (by omega) (by omega) b.length 0 u 0 (by omega) ⟨rfl,h.uok,by omega,by omega,fun _ _=>rfl,by simp [W]⟩
  have hSl:=hS.len
  have hSc0:=hS.c0
  have hSc1:=hS.c1
  have hSv:=hS.val
  rw [hb] at hSv
  have hSs:u'.getD (j+N+2) 0=u0:=by rw [hS.same _ (.inr (by omega)),e5]
  obtain⟨t,ht⟩:∃x,u0-c'=x:=⟨_,rfl⟩
  have hVW:W v 0 (N+2)=V:=by rw [←hV];unfold vD;rw [hvl]
  rw [hVW] at hSv
  have hWn:w=W u j (N+2)+u0*PB (N+2):=by rw [←hw,eK,←Nat.add_assoc,e5]
  have hWu':=yO (hS.ok.dr j (N+2))
  have hPn:=qY (N+2)
  have hD:W u' j (N+2)+t*PB (N+2)=w-g*V:=by rw [←ht,Int.sub_mul];omega
  have i1:decide (0≤(j:Int))=true:=dT (by omega)
  have i0:((j+1:Nat):Int)-1=(j:Int):=by omega
  have i2:bW ((j:Int)+(b.length:Int))=some ((j+N+2:Nat):Int):=yB (m:=0) (by omega) (by omega)
  have i3:=dU (xs:=u) (i:=j+N+2) (by omega)
  rw [e5] at i3
  have i4:bW (u0*1000000000)=some (u0*1000000000):=oA (by omega)
  have i5:bW (((j+N+2:Nat):Int)-1)=some ((j+N+1:Nat):Int):=yB (m:=0) (by omega) (by omega)
  have i6:=dU (xs:=u) (i:=j+N+1) (by omega)
  rw [e4] at i6
  have i7:bW (u0*1000000000+u1)=some top:=by rw [htop];exact oA (by omega)
  have i8:bW ((b.length:Int)-1)=some ((N+1:Nat):Int):=yB (m:=0) (by omega) (by omega)
  have i9:=dU (xs:=v) (i:=N+1) (by omega)
  rw [e1] at i9
  have i10:vW top v1=some g0:=by rw [←hg0];exact sA (by omega) (by omega) (by omega)
  have i11:vM top v1=some r0:=by rw [←hr0];exact nR (by omega) (by omega)
  have i12:=dU (xs:=u') (i:=j+N+2) (by omega)
  rw [hSs] at i12
  have i13:bW (u0-c')=some t:=by rw [ht];exact oA (by omega)
  have i14:qC u' ((j+N+2:Nat):Int) t=some (u'.set (j+N+2) t):=sC (by omega)
  have i15:dC (u'.set (j+N+2) t) ((j+N+2:Nat):Int)=some t:=by rw [dU (by simp;omega),eU (by omega)]
  have i16:bW ((j:Int)-1)=some ((j:Int)-1):=oA (by omega)
  have i17:=dU (xs:=q) (i:=j) (by omega)
  have i18:∀x,qC q (j:Int) x=some (q.set j x):=fun x=>sC (by omega)
  have hgF':Ev (fun K=>eV K b v u (j:Int) K g0 r0) g:=⟨3,fun K hK=>hgF K K (by omega)⟩
  have hSF':Ev (fun K=>fN K b v (j:Int) g K u 0 0) (u',c'):=⟨b.length+1,fun K hK=>hSF K K (by omega)⟩
  by_cases hneg:t<0
  ·
   have hgQ:g=Q+1:=by
    have:t*PB (N+2)≤(-1)*PB (N+2):=Int.mul_le_mul_of_nonneg_right (by omega) (by omega)
    rcases Int.lt_or_le Q g with h1|h1
    ·omega
    ·have:g=Q:=by omega
     subst this
     omega
   obtain⟨u3,c3,hB,hBF⟩:=aD0 (b:=b) (v:=v) (u0:=u'.set (j+N+2) t) (j:=j) hv (by omega) (by simp;omega) (by simp;omega) b.length 0 (u'.set (j+N+2) t) 0 (by omega)
    ⟨rfl,fun s hs=>by rw [fJ (by omega)];exact hS.ok s,by omega,by omega,fun _ _=>rfl,by simp [W]⟩
   have hBl:=hB.len
   simp only [List.length_set] at hBl
   have hBs:u3.getD (j+N+2) 0=t:=by rw [hB.same _ (.inr (by omega)),eU (by omega)]
   have hBv:=hB.val
   rw [hb,vQ (.inr (by omega)),hVW] at hBv
   have hWu3:=yO (u:=u3) (j:=j) (n:=N+2) fun s hs=>hB.ok _ (by omega)
   have hx:t+c3=0:=by
    have hfin:W u3 j (N+2)+(t+c3)*PB (N+2)=w-Q*V:=by
     rw [hgQ,Int.add_mul,Int.one_mul] at hD
     rw [Int.add_mul];omega
    have hlim:w-Q*V<V:=by rw [Int.add_mul] at hQ2;omega
    rcases Int.lt_trichotomy (t+c3) 0 with hx|hx|hx
    ·have:(t+c3)*PB (N+2)≤(-1)*PB (N+2):=Int.mul_le_mul_of_nonneg_right (by omega) (by omega)
     omega
    ·exact hx
    ·have:1*PB (N+2)≤(t+c3)*PB (N+2):=Int.mul_le_mul_of_nonneg_right (by omega) (by omega)
     omega
   obtain⟨q',u'',h5,h6⟩:=aC9 hb hL hnm hv hvl (by rw [e1];exact hv1) j (q.set j Q) (u3.set (j+N+2) (t+c3)) (by omega)
    (h.next hJ hnm hv hvl hw hQ0 hQB (by rw [hV];exact hQ1) (by rw [hV];exact hQ2) (by simp;omega) (fun s=>by
      rw [xM]
      by_cases e:s=j+N+2
      ·rw [if_pos ⟨e,by omega⟩,hx];omega
      ·rw [if_neg (fun x=>e x.1)]
       rcases Nat.lt_or_ge s (j+N+2) with h1|h1
       ·exact hB.ok s (by omega)
       ·rw [hB.same s (.inr (by omega)),fJ (by omega),hS.same s (.inr (by omega))];exact h.uok s) (fun s hs=>by
      rw [fJ (by omega)]
      rw [hB.same s (by omega),fJ (by omega),hS.same s (by omega)]) (by
      rw [eK,←Nat.add_assoc,eU (by omega),vQ (.inr (by omega)),hV]
      rw [hgQ,Int.add_mul,Int.one_mul] at hD
      rw [Int.add_mul];omega))
   refine⟨q',u'',h5,tQ.step ?_⟩
   have k1:bW (g-1)=some Q:=by rw [show g-1=Q by omega];exact oA (by omega)
   have k2:=dU (xs:=u3) (i:=j+N+2) (by omega)
   rw [hBs] at k2
   have hc30:=hB.c0
   have hc31:=hB.c1
   have k3:bW (t+c3)=some (t+c3):=oA (by omega)
   have k4:qC u3 ((j+N+2:Nat):Int) (t+c3)=some (u3.set (j+N+2) (t+c3)):=sC (by omega)
   have hBF':Ev (fun K=>iP K b v (j:Int) K (u'.set (j+N+2) t) 0 0) (u3,c3):=⟨b.length+1,fun K hK=>hBF K K (by omega)⟩
   rw [i0]
   simp only [fG,i1,i2,i3,i4,i5,i6,i7,i8,i9,i10,i11,d8,oB]
   refine tQ.bind hgF' ?_
   simp only [nY]
   refine tQ.bind hSF' ?_
   simp only [n0,i2,i12,i13,i14,i15,dT hneg,d8,oB,k1]
   refine tQ.bind hBF' ?_
   simp only [qP,i2,k2,k3,k4,i17,i18,i16,oB]
   exact h6
  ·have hgQ:g=Q:=by
    have:0≤t*PB (N+2):=Int.mul_nonneg (by omega) (by omega)
    rcases Int.lt_or_le Q g with h1|h1
    ·have:g=Q+1:=by omega
     subst this
     omega
    ·omega
   subst hgQ
   have hx:t=0:=by
    have hlim:w-g*V<V:=by rw [Int.add_mul] at hQ2;omega
    rcases Int.lt_or_le 0 t with hx|hx
    ·have:1*PB (N+2)≤t*PB (N+2):=Int.mul_le_mul_of_nonneg_right (by omega) (by omega)
     omega
    ·omega
   obtain⟨q',u'',h5,h6⟩:=aC9 hb hL hnm hv hvl (by rw [e1];exact hv1) j (q.set j g) (u'.set (j+N+2) t) (by omega)
    (h.next hJ hnm hv hvl hw hQ0 hQB (by rw [hV];exact hQ1) (by rw [hV];exact hQ2) (by simp;omega) (hS.ok.set (by omega) (by omega)) (fun s hs=>by
      rw [fJ (by omega)]
      rw [hS.same s (by omega)]) (by
      rw [eK,←Nat.add_assoc,eU (by omega),vQ (.inr (by omega)),hV]
      omega))
   refine⟨q',u'',h5,tQ.step ?_⟩
   rw [i0]
   simp only [fG,i1,i2,i3,i4,i5,i6,i7,i8,i9,i10,i11,d8,oB]
   refine tQ.bind hgF' ?_
   simp only [nY]
   refine tQ.bind hSF' ?_
   simp only [n0,i2,i12,i13,i14,i15,dF hneg,dS,oB,i17,i18,i16]
   exact h6
end Go.Proofs.YtcjdedkdoagifaaGreat
set_option linter.unusedVariables false
namespace Go.Proofs.YtcjdedkdoagifaaGreat
theorem aHU {b s:Int} (h0:1≤b) (h1:b<1000000000) (hs:s=1000000000/(b+1)):1≤s∧s≤500000000∧500000000≤s*b∧s*(b+1)≤1000000000:=by
 have d:=Int.mul_ediv_add_emod 1000000000 (b+1)
 have m0:=Int.emod_nonneg 1000000000 (show b+1≠0 by omega)
 have m1:=Int.emod_lt_of_pos 1000000000 (show 0<b+1 by omega)
 rw [←hs] at d
 have hs1:1≤s:=by
  rcases Int.lt_or_le 0 s with h|h
  ·exact h
  ·have:(b+1)*s≤0:=Int.mul_nonpos_of_nonneg_of_nonpos (by omega) (by omega)
   omega
 have hs2:2*s≤(b+1)*s:=Int.mul_le_mul_of_nonneg_right (by omega) (by omega)
 have e1:(b+1)*s=s*b+s:=by grind
 have e2:s*(b+1)=s*b+s:=by grind
 have e3:0≤(s-1)*(b-1):=Int.mul_nonneg (by omega) (by omega)
 have e4:(s-1)*(b-1)=s*b-s-b+1:=by grind
 refine⟨hs1,by omega,by omega,by omega⟩
theorem aDB {u:List Int} {n i:Nat} (h:i<n):(u.take n).getD i 0=u.getD i 0:=by
 simp only [List.getD_eq_getElem?_getD,List.getElem?_take];rw [if_pos h]
theorem lA.take {u:List Int} (h:lA u) (n:Nat):lA (u.take n):=fun i=>by
 rcases Nat.lt_or_ge i n with h1|h1
 ·rw [aDB h1];exact h i
 ·rw [tK (by simp;omega)];omega
theorem aHg {u:List Int} {n:Nat} (h:lA u) (hn:n≤u.length) (hv:vD u<PB n):vD (u.take n)=vD u:=by
 obtain⟨c,hc⟩:=Nat.exists_eq_add_of_le hn
 have e:(u.take n).length=n:=by simp;omega
 unfold vD at *
 rw [e]
 rw [hc] at hv ⊢
 rw [aGp h hv]
 exact aBr fun i hi=>by rw [Nat.zero_add];exact aDB hi
theorem aIz {a b:List Int} (ha:lA a) (hb:lA b) (tb:Top b) (hb2:2≤b.length) (hab:b.length≤a.length) (hL:a.length≤60000000000):
  ∃q r,q.length≤a.length∧r.length≤a.length∧lA q∧lA r∧vD q=vD a/vD b∧vD r=vD a%vD b∧Ev (fun K=>sW K a b) (q,r):=by
 obtain⟨N,hN⟩:∃N,b.length=N+2:=⟨b.length-2,by omega⟩
 have hbn:b≠[]:=by intro e;subst e;simp at hN
 obtain⟨b1,hb1⟩:∃x,b.getD (N+1) 0=x:=⟨_,rfl⟩
 have hb1d:=hb (N+1)
 rw [hb1] at hb1d
 have hb10:b1≠0:=by
  rcases tb with h|h
  ·exact absurd h hbn
  ·rw [hN,show N+2-1=N+1 by omega,hb1] at h;exact h
 obtain⟨s,hs⟩:∃x,1000000000/(b1+1)=x:=⟨_,rfl⟩
 obtain⟨hs1,hs2,hs3,hs4⟩:=aHU (b:=b1) (by omega) hb1d.2 hs.symm
 obtain⟨u,hul,huo,huv,huF⟩:=aCt (a:=a) (f:=s) ha (by omega) (by omega) hL
 obtain⟨vb,hvl,hvo,hvv,hvF⟩:=aCt (a:=b) (f:=s) hb (by omega) (by omega) (by omega)
 have hPN:=qY (N+1)
 have hbv:vD b=W b 0 (N+1)+b1*PB (N+1):=by unfold vD;rw [hN,eK,Nat.zero_add,hb1]
 have hbw:=yO (hb.dr 0 (N+1))
 have hVlt:vD vb<PB (N+2):=by
  rw [hvv]
  have h1:vD b<(b1+1)*PB (N+1):=by rw [Int.add_mul,Int.one_mul];omega
  have h2:s*vD b<s*((b1+1)*PB (N+1)):=Int.mul_lt_mul_of_pos_left h1 (by omega)
  have h3:s*(b1+1)*PB (N+1)≤1000000000*PB (N+1):=Int.mul_le_mul_of_nonneg_right hs4 (by omega)
  rw [Int.mul_assoc] at h3
  show _<PB (N+1)*1000000000
  omega
 have hv1:=hvo.take (N+2)
 have hvd:=aHg (n:=N+2) hvo (by omega) hVlt
 have hvtl:(vb.take (N+2)).length=N+2:=by simp;omega
 obtain⟨v,hv⟩:∃x,vb.take (N+2)=x:=⟨_,rfl⟩
 rw [hv] at hv1 hvd hvtl
 have hVs:vD v=s*vD b:=by rw [hvd,hvv]
 have hV1:500000000≤v.getD (N+1) 0:=by
  have e:vD v=W v 0 (N+1)+v.getD (N+1) 0*PB (N+1):=by unfold vD;rw [hvtl,eK,Nat.zero_add]
  have h1:=(yO (hv1.dr 0 (N+1))).2
  have h2:s*(b1*PB (N+1))≤s*vD b:=Int.mul_le_mul_of_nonneg_left (by omega) (by omega)
  rw [←Int.mul_assoc] at h2
  have h3:s*b1*PB (N+1)<(v.getD (N+1) 0+1)*PB (N+1):=by rw [Int.add_mul _ 1,Int.one_mul];omega
  have:=s6 hPN h3
  omega
 have hbpos:=tb.pos hb hbn
 rw [hN,show N+2-1=N+1 by omega] at hbpos
 have start:aDV a.length (N+2) v (s*vD a) (List.replicate (a.length-(N+2)+1) 0) u (a.length-(N+2)+1):=by
  refine⟨by simp,hul,huo,fun t _=>?_,?_,?_⟩
  ·simp only [List.getD_eq_getElem?_getD,List.getElem?_replicate];split<;>simp
  ·rw [huv,hVs]
   have h1:=ha.lt
   have e:a.length=(N+1)+(a.length-(N+2)+1):=by omega
   rw [e,z4] at h1
   have hp:=qY (a.length-(N+2)+1)
   have h2:PB (N+1)*PB (a.length-(N+2)+1)≤vD b*PB (a.length-(N+2)+1):=Int.mul_le_mul_of_nonneg_right hbpos (by omega)
   have h3:s*vD a<s*(vD b*PB (a.length-(N+2)+1)):=Int.mul_lt_mul_of_pos_left (by omega) (by omega)
   rw [←Int.mul_assoc] at h3
   exact h3
  ·rw [huv,Nat.sub_self,aKQ];simp
 obtain⟨q,u',hP,hF⟩:=aC9 (b:=b) (m:=a.length) hN (by omega) (by omega) hv1 hvtl hV1 _ _ _ (Nat.le_refl _) start
 have hql:=hP.ql
 have hu'l:=hP.ul
 have hqo:lA q:=fun i=>hP.qok i (Nat.zero_le _)
 have hlt:=hP.lt
 have hval:=hP.val
 rw [hVs] at hlt hval
 simp only [PB,Int.mul_one,Int.one_mul,Nat.sub_zero] at hlt hval
 have hqv:vD q=W q 0 (a.length-(N+2)+1):=by unfold vD;rw [hql]
 rw [←hqv] at hval
 have hu'n:=hP.uok.nonneg
 have hu'lt:vD u'<PB (N+2):=by rw [←hVs,hvd] at hlt;omega
 have hto:=hP.uok.take (N+2)
 have htv:=aHg (n:=N+2) hP.uok (by omega) hu'lt
 have htl:(u'.take (N+2)).length=N+2:=by simp;omega
 obtain⟨r,r0,hrl,hro,hrv,hr0,hrF⟩:=aD1 (a:=u'.take (N+2)) (b:=s) hto (by omega) (by omega) (by omega)
 have hrho:vD u'=s*(vD a-vD b*vD q):=by
  rw [Int.mul_sub,←Int.mul_assoc];omega
 have hr:vD r=vD a-vD b*vD q:=by
  rw [hrv,htv,hrho,Int.mul_ediv_cancel_left _ (by omega)]
 have hrn:0≤vD r:=hro.nonneg
 have hrb:vD r<vD b:=by
  rw [hrho,←hr] at hlt
  rw [Int.mul_comm,Int.mul_comm s] at hlt
  exact s6 (by omega) hlt
 have hbp:0<vD b:=by omega
 refine⟨q,r,by omega,by omega,hqo,hro,?_,?_,?_⟩
 ·have e:vD a=vD r+vD b*vD q:=by omega
  rw [e,Int.add_mul_ediv_left _ _ (by omega),Int.ediv_eq_zero_of_lt hrn hrb,Int.zero_add]
 ·have e:vD a=vD r+vD b*vD q:=by omega
  rw [e,Int.add_mul_emod_self_left,Int.emod_eq_of_lt hrn hrb]
 ·have e1:bW ((b.length:Int)-1)=some ((N+1:Nat):Int):=yB (m:=0) (by omega) (by omega)
  have e2:=dU (xs:=b) (i:=N+1) (by omega)
  rw [hb1] at e2
  have e3:bW (b1+1)=some (b1+1):=oA (by omega)
  have e4:vW 1000000000 (b1+1)=some s:=by rw [←hs];exact sA (by omega) (by omega) (by omega)
  have e5:slL vb 0 (b.length:Int)=some v:=by rw [hN,←hv];exact aD9 (by omega)
  have e6:bW ((a.length:Int)-(b.length:Int))=some ((a.length-(N+2):Nat):Int):=yB (m:=0) (by omega) (by omega)
  have e7:bW (((a.length-(N+2):Nat):Int)+1)=some ((a.length-(N+2)+1:Nat):Int):=yB (m:=0) (by omega) (by omega)
  have e8:vK ((a.length-(N+2)+1:Nat):Int) (0:Int)=some (List.replicate (a.length-(N+2)+1) 0):=yV (by omega)
  have e9:((a.length-(N+2):Nat):Int)=((a.length-(N+2)+1:Nat):Int)-1:=by omega
  have e10:slL u' 0 (b.length:Int)=some (u'.take (N+2)):=by rw [hN];exact aD9 (by omega)
  simp only [sW,e1,e2,e3,e4,oB]
  refine Ev.bind huF (Ev.bind hvF ?_)
  simp only [e5,e6,e7,e8,oB]
  rw [e9]
  refine Ev.bind hF.ev ?_
  simp only [rS,e10,oB]
  exact Ev.bind hrF (Ev.pure _)
theorem aJ7 {n:Nat} (h:n≤18446744073709551615):IntKind.u64.wrap (n:Int)=(n:Int):=IntWalk.u64_in _ ⟨by omega,by omega⟩
theorem aF9 (m n:Nat):dl (m/n)≤dl m:=qD (Nat.div_le_self m n)
theorem aEu (m n:Nat):dl (m%n)≤dl m:=qD (Nat.mod_le m n)
theorem wG {n:Nat} (h:(dD n).length≤2):n<1000000000000000000:=by
 have:=aCX n
 have h2:=aBj (a:=dl n) (b:=2) h
 have:PB 2=1000000000000000000:=by decide
 omega
theorem aCx {m n:Nat} (hn:0<n) (hL:dl m≤60000000000):Ev (fun K=>mR K (dD m) (dD n)) (Z (m/n:Nat),Z (m%n:Nat)):=by
 have dm:=dA m;have dn:=dA n
 have vm:=eH m;have vn:=eH n
 have tm:=nE m;have tn:=nE n
 have lm:(dD m).length=dl m:=rfl
 have ln:(dD n).length=dl n:=rfl
 have key:Ev (fun K=>l5 K (dD m) (dD n)) (Z (m/n:Nat),Z (m%n:Nat)):=by
  unfold l5
  refine Ev.bind (wX dm dn tm tn (by omega)) ?_
  rw [vm,vn]
  unfold tZ
  by_cases hlt:m<n
  ·rw [if_pos (by omega)]
   have h1:=vI false dm (by omega)
   rw [vm,Int.toNat_natCast,m6] at h1
   refine Ev.congr (g:=fun K=>(eX K false (dD m)).bind fun v8=>some ((⟨false,([]:List Int)⟩:aZ),v8)) ?_ (fun K=>rfl)
   refine Ev.bind h1 ?_
   rw [Nat.div_eq_of_lt hlt,Nat.mod_eq_of_lt hlt]
   have:Z ((0:Nat):Int)=⟨false,[]⟩:=by rw [←m6];rfl
   rw [this]
   exact Ev.pure _
  ·have hc:decide ((if(m:Int)<n then(-1:Int) else if(n:Int)<m then 1 else 0)<0)=false:=by
    rw [if_neg (by omega)]
    split<;>rfl
   simp only [hc,dS]
   have hle:dl n≤dl m:=qD (by omega)
   have hn0:dl n≠0:=by rw [Ne,tX];omega
   by_cases h1:dl n=1
   ·have e1:(((dD n).length:Int)==1)=true:=qT (by omega)
    obtain⟨a1,a2⟩:=zJ h1
    have e2:=dU (xs:=dD n) (i:=0) (by omega)
    simp only [Int.natCast_zero] at e2
    rw [a1] at e2
    obtain⟨q,r,g1,g2,g3,g4,g5⟩:=aD1 (a:=dD m) (b:=(n:Int)) dm (by omega) (by omega) (by omega)
    rw [vm] at g3 g4
    have h2:=vI false g2 (by omega)
    rw [g3,m6] at h2
    simp only [e1,d8,e2,oB]
    refine Ev.bind g5 (Ev.bind h2 ?_)
    have hr:r=((m%n:Nat):Int):=by rw [g4];simp
    have hrlt:m%n<n:=Nat.mod_lt _ hn
    rw [hr,aJ7 (by omega),rL false (by omega),oB,m6]
    have:((((m:Int)/n).toNat:Nat):Int)=((m/n:Nat):Int):=by rw [←Int.natCast_ediv,Int.toNat_natCast]
    rw [this]
    exact Ev.pure _
   ·have e1:(((dD n).length:Int)==1)=false:=qF (by omega)
    obtain⟨q,r,g1,g2,g3,g4,g5,g6,g7⟩:=aIz dm dn tn (by omega) (by omega) (by omega)
    rw [vm,vn] at g5 g6
    have h2:=vI false g3 (by omega)
    have h3:=vI false g4 (by omega)
    rw [g5,m6] at h2
    rw [g6,m6] at h3
    simp only [e1,dS]
    refine Ev.bind g7 (Ev.bind h2 (Ev.bind h3 ?_))
    have e3:((((m:Int)/n).toNat:Nat):Int)=((m/n:Nat):Int):=by rw [←Int.natCast_ediv,Int.toNat_natCast]
    have e4:((((m:Int)%n).toNat:Nat):Int)=((m%n:Nat):Int):=by rw [←Int.natCast_emod,Int.toNat_natCast]
    rw [e3,e4]
    exact Ev.pure _
 unfold mR
 rw [aAj dm,aAj dn]
 simp only [oB]
 by_cases h1:(dD m).length≤2
 ·by_cases h2:(dD n).length≤2
  ·rw [if_pos h1,if_pos h2]
   simp only [d8,vm,vn]
   have b1:=wG h1
   have hd:=Nat.div_le_self m n
   have hm:=Nat.mod_le m n
   have e1:vW (m:Int) (n:Int)=some ((m/n:Nat):Int):=by rw [sA (by omega) (by omega) (by omega)];simp
   have e2:vM (m:Int) (n:Int)=some ((m%n:Nat):Int):=by rw [nR (by omega) (by omega)];simp
   simp only [e1,e2,oB]
   rw [aJ7 (by omega),aJ7 (by omega),rL false (by omega),rL false (by omega)]
   simp only [oB,m6]
   exact Ev.pure _
  ·rw [if_pos h1,if_neg h2]
   simp only [d8,dS]
   exact key
 ·rw [if_neg h1]
  simp only [dS]
  exact key
theorem aHe {x y:Int} (hy:y≠0) (hx:dl x.natAbs≤40000000000) (hy2:dl y.natAbs≤40000000000):Ev (fun K=>rY K (Z x) (Z y)) (Z (x/y),Z (x%y)):=by
 have hyl:dl y.natAbs≠0:=by rw [Ne,tX];omega
 have e1:(((dD y.natAbs).length:Int)==0)=false:=qF (by show(dl y.natAbs:Int)≠0;omega)
 have hm0:=Nat.mod_lt x.natAbs (show 0<y.natAbs by omega)
 have hd:∀n:Nat,((Z (n:Int)).d.length:Int)=dl n:=fun n=>by rw [rE];simp
 have hdm:=aF9 x.natAbs y.natAbs
 have hmm:=aEu x.natAbs y.natAbs
 have hnd:=Nat.div_add_mod x.natAbs y.natAbs
 have fin:∀(q r:Nat),((if(x<0)↔(y<0) then(q:Int) else -(q:Int))=x/y)→((r:Int)=x%y)→Ev (fun K=>lN K (Z x) (Z y) (Z r) (Z q)) (Z (x/y),Z (x%y)):=by
  intro q r hq hr
  refine Ev.of fun K=>?_
  unfold lN
  rw [sR,sR,←hq,←hr]
  by_cases hs:(x<0)↔(y<0)
  ·have e:(decide (x<0) != decide (y<0))=false:=by simp [hs]
   rw [e,dS,if_pos hs]
   have:(Z (q:Int))=⟨false,(Z (q:Int)).d⟩:=by unfold Z;simp
   rw [←this]
  ·have e:(decide (x<0) != decide (y<0))=true:=by simp;exact hs
   rw [e,d8,if_neg hs]
   congr 2
   unfold Z
   rw [Int.natAbs_neg]
   congr 1
   have:(dD (q:Int).natAbs).length=dl q:=by simp [dl]
   rw [this]
   by_cases h0:q=0
   ·subst h0;rw [uO];rfl
   ·have:dl q≠0:=by rw [Ne,tX];exact h0
    rw [dT (by omega),dT (by omega)]
 have eT:∀z:Int,(z.natAbs:Int)=z∨(z.natAbs:Int)=-z:=fun z=>by omega
 unfold rY
 simp only [e1,dS,Z_d,sR]
 refine Ev.bind (aCx (m:=x.natAbs) (n:=y.natAbs) (by omega) (by omega)) ?_
 have c1:(x.natAbs:Int)=(y.natAbs:Int)*((x.natAbs/y.natAbs:Nat):Int)+((x.natAbs%y.natAbs:Nat):Int):=by
  rw [←Int.natCast_mul,←Int.natCast_add,hnd]
 generalize hq:x.natAbs/y.natAbs=q at *
 generalize hr:x.natAbs%y.natAbs=r at *
 have uniq:∀a b:Int,x=y*a+b→0≤b→b<y.natAbs→x/y=a∧x%y=b:=by
  intro a b h1 h2 h3
  have hm:x%y=b:=by
   rw [h1,Int.add_comm,Int.add_mul_emod_self_left]
   by_cases hy0:y<0
   ·have:b%y=b% -y:=by rw [Int.emod_neg]
    rw [this,Int.emod_eq_of_lt h2 (by omega)]
   ·exact Int.emod_eq_of_lt h2 (by omega)
  refine⟨?_,hm⟩
  have h4:=Int.mul_ediv_add_emod x y
  exact Int.eq_of_mul_eq_mul_left hy (by omega)
 by_cases hx0:x<0
 ·have e2:decide (x<0)=true:=dT hx0
  simp only [e2,d8]
  by_cases hr0:r=0
  ·subst hr0
   have e3:decide (0<((Z ((0:Nat):Int)).d.length:Int))=false:=by rw [Z_d,show((0:Nat):Int).natAbs=0 from rfl,w7];rfl
   simp only [e3,dS]
   refine fin q 0 ?_ ?_
   ·by_cases hy0:y<0
    ·rw [if_pos (by simp [hx0,hy0])]
     refine((uniq q 0 ?_ (by omega) (by omega)).1).symm
     rw [show(y.natAbs:Int)=-y by omega,show(x.natAbs:Int)=-x by omega] at c1
     rw [Int.neg_mul] at c1;omega
    ·rw [if_neg (by simp [hx0,hy0])]
     refine((uniq (-q) 0 ?_ (by omega) (by omega)).1).symm
     rw [show(y.natAbs:Int)=y by omega,show(x.natAbs:Int)=-x by omega] at c1
     rw [Int.mul_neg];omega
   ·by_cases hy0:y<0
    ·refine((uniq q 0 ?_ (by omega) (by omega)).2).symm
     rw [show(y.natAbs:Int)=-y by omega,show(x.natAbs:Int)=-x by omega] at c1
     rw [Int.neg_mul] at c1;omega
    ·refine((uniq (-q) 0 ?_ (by omega) (by omega)).2).symm
     rw [show(y.natAbs:Int)=y by omega,show(x.natAbs:Int)=-x by omega] at c1
     rw [Int.mul_neg];omega
  ·have hrl:dl r≠0:=by rw [Ne,tX];exact hr0
   have e3:decide (0<((Z (r:Int)).d.length:Int))=true:=dT (by rw [rE];simp only [Int.natAbs_natCast];omega)
   simp only [e3,d8]
   simp only [Z_d,Int.natAbs_natCast]
   have d1:lA [1]:=lA.nil.cons (by omega) (by omega)
   obtain⟨p,p1,p2,p3,p4⟩:=aFL (dA q) d1 (by show dl q≤_;omega) (by simp)
   rw [eH,vD1] at p3
   have o1:=vI false p1 (by have:(dD q).length=dl q:=rfl;simp at p2;omega)
   rw [p3,m6] at o1
   obtain⟨s,s1,s2,s3,s4⟩:=aBG (dA y.natAbs) (dA r) (qD (by omega)) (by rw [eH,eH];omega) (by show dl _≤_;omega)
   rw [eH,eH] at s3
   have o2:=vI false s2 (by rw [s1];show dl _≤_;omega)
   rw [s3,m6] at o2
   refine Ev.bind p4 (Ev.bind o1 (Ev.bind s4 (Ev.bind o2 ?_)))
   refine fin _ _ ?_ ?_
   ·by_cases hy0:y<0
    ·rw [if_pos (by simp [hx0,hy0])]
     refine((uniq (q+1) (y.natAbs-r) ?_ (by omega) (by omega)).1).symm▸(by omega)
     rw [show(y.natAbs:Int)=-y by omega,show(x.natAbs:Int)=-x by omega] at c1
     rw [Int.neg_mul] at c1;rw [Int.mul_add];omega
    ·rw [if_neg (by simp [hx0,hy0])]
     refine((uniq (-(q+1)) (y.natAbs-r) ?_ (by omega) (by omega)).1).symm▸(by omega)
     rw [show(y.natAbs:Int)=y by omega,show(x.natAbs:Int)=-x by omega] at c1
     rw [Int.mul_neg,Int.mul_add];omega
   ·by_cases hy0:y<0
    ·refine((uniq (q+1) (y.natAbs-r) ?_ (by omega) (by omega)).2).symm▸(by omega)
     rw [show(y.natAbs:Int)=-y by omega,show(x.natAbs:Int)=-x by omega] at c1
     rw [Int.neg_mul] at c1;rw [Int.mul_add];omega
    ·refine((uniq (-(q+1)) (y.natAbs-r) ?_ (by omega) (by omega)).2).symm▸(by omega)
     rw [show(y.natAbs:Int)=y by omega,show(x.natAbs:Int)=-x by omega] at c1
     rw [Int.mul_neg,Int.mul_add];omega
 ·have e2:decide (x<0)=false:=dF hx0
  simp only [e2,dS]
  refine fin q r ?_ ?_
  ·by_cases hy0:y<0
   ·rw [if_neg (by simp [hx0,hy0])]
    refine((uniq (-q) r ?_ (by omega) (by omega)).1).symm
    rw [show(y.natAbs:Int)=-y by omega,show(x.natAbs:Int)=x by omega] at c1
    rw [Int.neg_mul] at c1;rw [Int.mul_neg];omega
   ·rw [if_pos (by simp [hx0,hy0])]
    refine((uniq q r ?_ (by omega) (by omega)).1).symm
    rw [show(y.natAbs:Int)=y by omega,show(x.natAbs:Int)=x by omega] at c1
    omega
  ·by_cases hy0:y<0
   ·refine((uniq (-q) r ?_ (by omega) (by omega)).2).symm
    rw [show(y.natAbs:Int)=-y by omega,show(x.natAbs:Int)=x by omega] at c1
    rw [Int.neg_mul] at c1;rw [Int.mul_neg];omega
   ·refine((uniq q r ?_ (by omega) (by omega)).2).symm
    rw [show(y.natAbs:Int)=y by omega,show(x.natAbs:Int)=x by omega] at c1
    omega
theorem aJH (K:Nat):∀(n m k:Nat),n<k→kI K k (m:Int) (n:Int)=some ((Nat.gcd m n:Nat):Int):=by
 intro n
 induction n using Nat.strongRecOn with
 |_ n ih=>
  intro m k hk
  obtain⟨k',rfl,_⟩:=cU hk
  by_cases h:n=0
  ·subst h
   simp [kI]
  ·have e1:decide (0<(n:Int))=true:=dT (by omega)
   have e2:vM (m:Int) (n:Int)=some ((m%n:Nat):Int):=by rw [nR (by omega) (by omega)];simp
   simp only [kI,e1,d8,e2,oB]
   have hlt:=Nat.mod_lt m (show 0<n by omega)
   rw [ih (m%n) hlt n k' (by omega)]
   congr 2
   rw [Nat.gcd_comm m n,Nat.gcd_rec n m,Nat.gcd_comm]
theorem aKb:∀(n m:Nat),dl m≤60000000000→dl n≤60000000000→∃r,tQ (fun K k=>iY K k (Z (m:Int)) (Z (n:Int))) r∧(r=.ret (Z (Nat.gcd m n:Nat))∨r=.go (Z (Nat.gcd m n:Nat))):=by
 intro n
 induction n using Nat.strongRecOn with
 |_ n ih=>
  intro m hm hn
  by_cases h:n=0
  ·subst h
   refine⟨.go (Z m),tQ.of 1 fun K k hk=>?_,.inr (by simp)⟩
   obtain⟨k',rfl,_⟩:=cU (n:=0) hk
   have e:decide (0<((Z ((0:Nat):Int)).d.length:Int))=false:=by rw [rE,show((0:Nat):Int).natAbs=0 from rfl,uO];rfl
   simp only [iY,e,dS]
  ·have hl:dl n≠0:=by rw [Ne,tX];exact h
   have e1:decide (0<((dD n).length:Int))=true:=dT (by show(0:Int)<dl n;omega)
   have hlt:=Nat.mod_lt m (show 0<n by omega)
   obtain⟨r,h1,h2⟩:=ih (m%n) hlt n hn (Nat.le_trans (aEu _ _) hm)
   have hg:Nat.gcd n (m%n)=Nat.gcd m n:=by rw [Nat.gcd_comm m n,Nat.gcd_rec n m,Nat.gcd_comm]
   rw [hg] at h2
   have hdiv:=aCx (m:=m) (n:=n) (by omega) hm
   have zd:∀t:Nat,(Z (t:Int)).d=dD t:=fun t=>by rw [Z_d];simp
   by_cases hs:dl m≤2∧dl n≤2
   ·refine⟨.ret (Z (Nat.gcd m n:Nat)),tQ.step ?_,.inl rfl⟩
    have b1:=wG (n:=m) hs.1
    have b2:=wG (n:=n) hs.2
    have hgl:Nat.gcd m n≤n:=Nat.gcd_le_right m (by omega)
    simp only [iY,e1,d8,zd,aAj (dA m),aAj (dA n),eH,oB]
    rw [if_pos (show(dD m).length≤2 from hs.1),if_pos (show(dD n).length≤2 from hs.2)]
    simp only [d8]
    refine tQ.bind (x:=((Nat.gcd m n:Nat):Int)) (f:=fun K=>kI K K (m:Int) (n:Int)) ⟨n+1,fun K hK=>aJH K n m K (by omega)⟩ ?_
    simp only [sL,aJ7 (show Nat.gcd m n≤18446744073709551615 by omega),rL false (show Nat.gcd m n≤18446744073709551615 by omega),oB,m6]
    exact tQ.of 0 fun _ _ _=>rfl
   ·refine⟨r,tQ.step ?_,h2⟩
    simp only [iY,e1,d8,zd,aAj (dA m),aAj (dA n),eH,oB]
    by_cases hs1:(dD m).length≤2
    ·have hs2:¬(dD n).length≤2:=fun e=>hs ⟨hs1,e⟩
     rw [if_pos hs1,if_neg hs2]
     simp only [d8,dS]
     exact tQ.bind hdiv h1
    ·rw [if_neg hs1]
     simp only [dS]
     exact tQ.bind hdiv h1
theorem aGw {x y:Int} (hx:dl x.natAbs≤60000000000) (hy:dl y.natAbs≤60000000000):Ev (fun K=>rX K (Z x) (Z y)) (Z (Int.gcd x y:Nat)):=by
 unfold rX
 have h1:=vI false (dA x.natAbs) (by show dl _≤_;omega)
 have h2:=vI false (dA y.natAbs) (by show dl _≤_;omega)
 rw [eH,m6,Int.toNat_natCast] at h1 h2
 simp only [Z_d]
 refine Ev.bind h1 (Ev.bind h2 ?_)
 obtain⟨r,h3,h4⟩:=aKb y.natAbs x.natAbs hx hy
 refine Ev.bind h3.ev ?_
 rcases h4 with rfl|rfl
 ·exact Ev.pure _
 ·exact Ev.pure _
end Go.Proofs.YtcjdedkdoagifaaGreat
set_option linter.unusedVariables false
namespace Go.Proofs.YtcjdedkdoagifaaGreat
theorem aCM (u:List Int):∀(n:Nat),n≤u.length→n≤9000000000000→∃m:Nat,m≤n∧(∀i,m≤i→i<n→u.getD i 0=0)∧(m=0∨u.getD (m-1) 0≠0)∧∀K k,n<k→fL K u k n=some (m:Int)
 |0,_,_=>⟨0,Nat.le_refl _,fun i _ h=>by omega,.inl rfl,fun K k hk=>by
   obtain⟨k',rfl,_⟩:=cU hk
   simp [fL]⟩
 |n+1,h,hL=>by
  have e1:bW (((n+1:Nat):Int)-1)=some (n:Int):=yB (m:=0) (by omega) (by omega)
  have e2:decide (0<((n+1:Nat):Int))=true:=dT (by omega)
  have e0:max (n:Int) 0=(n:Int):=by omega
  have e3:=dU (xs:=u) (i:=n) (by omega)
  by_cases h0:u.getD n 0=0
  ·obtain⟨m,h1,h2,h3,h4⟩:=aCM u n (by omega) (by omega)
   refine⟨m,by omega,fun i a b=>?_,h3,fun K k hk=>?_⟩
   ·by_cases e:i=n
    ·subst e;exact h0
    ·exact h2 i a (by omega)
   ·obtain⟨k',rfl,hk'⟩:=cU hk
    simp only [fL,e0,e1,e2,e3,qT h0,d8,oB]
    exact h4 K k' (by omega)
  ·refine⟨n+1,by omega,fun i a b=>by omega,.inr (by simpa using h0),fun K k hk=>?_⟩
   obtain⟨k',rfl,hk'⟩:=cU hk
   simp only [fL,e0,e1,e2,e3,qF h0,d8,dS,oB]
theorem jM (neg:Bool) {u:List Int} (hd:lA u) (hL:u.length≤9000000000000):Ev (fun K=>cA K neg u) (mkG neg (vD u).toNat):=by
 obtain⟨m,h1,h2,h3,h4⟩:=aCM u u.length (Nat.le_refl _) hL
 obtain⟨h5,h6⟩:=aLm hd h1 h2 h3
 have hn:=hd.nonneg
 refine⟨u.length+1,fun K hK=>?_⟩
 simp only [cA,h4 K K (by omega),oB,nQ]
 unfold mkG
 by_cases h0:m=0
 ·rw [qT (by omega),d8,if_pos (by have:=h6.1 h0;omega)]
 ·rw [qF (by omega),dS,aD9 h1,oB,if_neg (by intro h;exact h0 (h6.2 (by omega))),h5]
theorem aLb {u:List Int} {x:Int} (h:u.length≤60000000000):qO u [x]=some (u++[x]):=wD (by simp;omega)
theorem lA.snoc {u:List Int} {x:Int} (h:lA u) (h0:0≤x) (h1:x<1000000000):lA (u++[x]):=fun i=>by
 rcases Nat.lt_trichotomy i u.length with h2|h2|h2
 ·rw [aFI h2];exact h i
 ·subst h2;rw [aDL];exact⟨h0,h1⟩
 ·rw [tK (by simp;omega)];omega
theorem aJN:∀(n:Nat) (neg:Bool) (u:List Int),n≤9223372036854775808→(neg=false→n≤9223372036854775807)→lA u→u.length+n≤30000000000000000000→u.length+dl n≤50→∃r,lA r∧r.length≤u.length+dl n∧vD r=vD u+n*PB u.length∧∀K k,n<k→eJ K k u (if neg then -(n:Int) else n)=some r:=by
 intro n
 induction n using Nat.strongRecOn with
 |_ n ih=>
  intro neg u h1 h2 hu h3 h4
  by_cases h0:n=0
  ·subst h0
   refine⟨u,hu,by omega,by simp,fun K k hk=>?_⟩
   obtain⟨k',rfl,_⟩:=cU hk
   cases neg<;>simp [eJ]
  ·have hdl:dl n=dl (n/1000000000)+1:=by unfold dl;rw [t9 h0];rfl
   obtain⟨r,g1,g2,g3,g4⟩:=ih (n/1000000000) (by omega) neg (u++[((n%1000000000:Nat):Int)]) (by omega) (fun e=>by have:=h2 e;omega) (hu.snoc (by omega) (by omega)) (by simp;omega) (by simp;omega)
   have hul:(u++[((n%1000000000:Nat):Int)]).length=u.length+1:=by simp
   rw [hul] at g2 g3
   refine⟨r,g1,by omega,?_,fun K k hk=>?_⟩
   ·rw [g3]
    unfold vD
    rw [hul,aIH]
    simp only [PB]
    have:(n:Int)=(n%1000000000:Nat)+((n/1000000000:Nat):Int)*1000000000:=by omega
    rw [show(n:Int)*PB u.length=((n%1000000000:Nat)+((n/1000000000:Nat):Int)*1000000000)*PB u.length by rw [←this]]
    grind
   ·obtain⟨k',rfl,_⟩:=cU hk
    have a1:∀x:Int,qO u [x]=some (u++[x]):=fun x=>aLb (by omega)
    cases neg with
    |false=>
     have g4':=g4 K k' (by omega)
     simp only [Bool.false_eq_true,if_false] at g4' ⊢
     have:=h2 rfl
     have e1:((n:Int) != 0)=true:=nT (by omega)
     have e2:vM (n:Int) 1000000000=some ((n%1000000000:Nat):Int):=by rw [nR (by omega) (by omega)];simp
     have e3:vW (n:Int) 1000000000=some ((n/1000000000:Nat):Int):=by rw [sA (by omega) (by omega) (by omega)];simp
     have e4:decide (((n%1000000000:Nat):Int)<0)=false:=dF (by omega)
     simp only [eJ,e1,e2,e3,e4,a1,d8,dS,oB]
     exact g4'
    |true=>
     have g4':=g4 K k' (by omega)
     simp only [if_true] at g4' ⊢
     have e1:(-(n:Int) != 0)=true:=nT (by omega)
     have e2:vM (-(n:Int)) 1000000000=some (-((n%1000000000:Nat):Int)):=by
      unfold vM
      rw [if_neg (by omega),Int.neg_tmod,Int.tmod_eq_emod_of_nonneg (by omega)];simp
     have e3:vW (-(n:Int)) 1000000000=some (-((n/1000000000:Nat):Int)):=by
      unfold vW
      rw [if_neg (by omega),Int.neg_tdiv,Int.tdiv_eq_ediv_of_nonneg (by omega),show(n:Int)/1000000000=((n/1000000000:Nat):Int) by simp]
      exact oA (by omega)
     by_cases hz:n%1000000000=0
     ·have e4:decide (-((n%1000000000:Nat):Int)<0)=false:=dF (by omega)
      simp only [eJ,e1,e2,e3,e4,a1,d8,dS,oB]
      rw [hz] at g4' ⊢
      exact g4'
     ·have e4:decide (-((n%1000000000:Nat):Int)<0)=true:=dT (by omega)
      have e5:bW (- -((n%1000000000:Nat):Int))=some ((n%1000000000:Nat):Int):=by rw [Int.neg_neg];exact oA (by omega)
      simp only [eJ,e1,e2,e3,e4,e5,a1,d8,oB]
      exact g4'
theorem yS {n:Int} (h:-9223372036854775808≤n∧n≤9223372036854775807):Ev (fun K=>gU K n) (Z n):=by
 have hl:dl n.natAbs≤3:=aAF (by
  have:PB 3=1000000000000000000000000000:=by decide
  omega)
 obtain⟨r,h1,h2,h3,h4⟩:=aJN n.natAbs (decide (n<0)) [] (by omega) (by simp;omega) lA.nil (by simp;omega) (by simp;omega)
 have e:(if decide (n<0)=true then -(n.natAbs:Int) else(n.natAbs:Int))=n:=by
  by_cases h0:n<0
  ·rw [if_pos (by simpa using h0)];omega
  ·rw [if_neg (by simpa using h0)];omega
 rw [e] at h4
 have h5:=jM (decide (n<0)) h1 (by simp at h2;omega)
 rw [h3,vD0] at h5
 simp only [List.length_nil,PB,Int.mul_one,Int.zero_add,Int.toNat_natCast] at h5
 rw [s5,e] at h5
 unfold gU
 refine Ev.bind (f:=fun K=>eJ K K [] n) ⟨n.natAbs+1,fun K hK=>h4 K K (by omega)⟩ ?_
 simp only [p5]
 exact Ev.bind h5 (Ev.pure _)
theorem tS (u:List Int) (i:Nat):d9 u (i:Int)=some (u.getD i 0):=by
 unfold d9
 by_cases h:i<u.length
 ·rw [dT (by omega),d8,dU h,oB]
 ·rw [dF (by omega),dS,tK (by omega)]
theorem aKI {u:List Int} {x:Int} {i:Nat} (h:u.length=i):W (u++[x]) 0 (i+1)=W u 0 i+x*PB i:=by subst h;exact aIH
theorem aHN {a b:List Int} (ha:lA a) (hb:lA b) {M:Nat} (hL:a.length≤M) (hM:b.length≤M) (hMM:M≤50000000000):∀(t i:Nat) (out:List Int) (c:Int),M+1-i=t→i≤M+1→out.length=i→lA out→0≤c→c≤1→(i=M+1→c=0)→W out 0 i+c*PB i=W a 0 i+W b 0 i→
  ∃r,r.length≤M+1∧lA r∧vD r=vD a+vD b∧∀K k,t<k→dK K a b k out c (i:Int)=some r:=by
 intro t
 induction t with
 |zero=>
  intro i out c ht hi ho hD hc0 hc1 hc hI
  have hii:i=M+1:=by omega
  have:=hc hii
  subst this
  refine⟨out,by omega,hD,?_,fun K k hk=>?_⟩
  ·rw [yY (u:=a) (by omega),yY (u:=b) (by omega)] at hI
   unfold vD
   rw [ho];omega
  ·obtain⟨k',rfl,_⟩:=cU hk
   have e1:decide ((i:Int)<(a.length:Int))=false:=dF (by omega)
   have e2:decide ((i:Int)<(b.length:Int))=false:=dF (by omega)
   have e3:decide ((0:Int)<0)=false:=dF (by omega)
   simp only [dK,e1,e2,e3,dS]
 |succ t ih=>
  intro i out c ht hi ho hD hc0 hc1 hc hI
  have ha':=ha i
  have hb':=hb i
  have f1:bW (a.getD i 0+b.getD i 0)=some (a.getD i 0+b.getD i 0):=oA (by omega)
  have f2:bW (a.getD i 0+b.getD i 0+c)=some (a.getD i 0+b.getD i 0+c):=oA (by omega)
  have f3:vM (a.getD i 0+b.getD i 0+c) 1000000000=some ((a.getD i 0+b.getD i 0+c)%1000000000):=nR (by omega) (by omega)
  have f4:vW (a.getD i 0+b.getD i 0+c) 1000000000=some ((a.getD i 0+b.getD i 0+c)/1000000000):=sA (by omega) (by omega) (by omega)
  have f5:bW ((i:Int)+1)=some ((i+1:Nat):Int):=yB (m:=0) (by omega) (by omega)
  have f6:∀x:Int,qO out [x]=some (out++[x]):=fun x=>aLb (by omega)
  have go:(i=M→a.getD i 0=0∧b.getD i 0=0)→i≤M→∃r,r.length≤M+1∧lA r∧vD r=vD a+vD b∧∀K k,t<k→dK K a b k (out++[(a.getD i 0+b.getD i 0+c)%1000000000]) ((a.getD i 0+b.getD i 0+c)/1000000000) ((i+1:Nat):Int)=some r:=by
   intro hlast hile
   refine ih (i+1) _ _ (by omega) (by omega) (by simp;omega) (hD.snoc (by omega) (by omega)) (by omega) (by omega) (fun e=>?_) ?_
   ·have:=hlast (by omega);omega
   ·rw [aKI ho,eK,eK,Nat.zero_add]
    simp only [PB]
    have hd:(a.getD i 0+b.getD i 0+c)%1000000000+1000000000*((a.getD i 0+b.getD i 0+c)/1000000000)=a.getD i 0+b.getD i 0+c:=by omega
    grind
  by_cases h1:i<a.length
  ·obtain⟨r,g1,g2,g3,g4⟩:=go (fun e=>by omega) (by omega)
   refine⟨r,g1,g2,g3,fun K k hk=>?_⟩
   obtain⟨k',rfl,_⟩:=cU hk
   simp only [dK,dT (show(i:Int)<(a.length:Int) by omega),tS,f1,f2,f3,f4,f5,f6,d8,oB]
   exact g4 K k' (Nat.lt_of_succ_lt_succ hk)
  ·by_cases h2:i<b.length
   ·obtain⟨r,g1,g2,g3,g4⟩:=go (fun e=>by omega) (by omega)
    refine⟨r,g1,g2,g3,fun K k hk=>?_⟩
    obtain⟨k',rfl,_⟩:=cU hk
    simp only [dK,dF (show¬(i:Int)<(a.length:Int) by omega),dT (show(i:Int)<(b.length:Int) by omega),tS,f1,f2,f3,f4,f5,f6,d8,dS,oB]
    exact g4 K k' (Nat.lt_of_succ_lt_succ hk)
   ·by_cases h3:0<c
    ·obtain⟨r,g1,g2,g3,g4⟩:=go (fun e=>⟨tK (by omega),tK (by omega)⟩) (by
      rcases Nat.lt_or_ge (M) i with h|h
      ·have:=hc (by omega);omega
      ·exact h)
     refine⟨r,g1,g2,g3,fun K k hk=>?_⟩
     obtain⟨k',rfl,_⟩:=cU hk
     simp only [dK,dF (show¬(i:Int)<(a.length:Int) by omega),dF (show¬(i:Int)<(b.length:Int) by omega),dT h3,tS,f1,f2,f3,f4,f5,f6,d8,dS,oB]
     exact g4 K k' (Nat.lt_of_succ_lt_succ hk)
    ·refine⟨out,by omega,hD,?_,fun K k hk=>?_⟩
     ·rw [yY (u:=a) (by omega),yY (u:=b) (by omega)] at hI
      have:c=0:=by omega
      subst this
      unfold vD
      rw [ho];omega
     ·obtain⟨k',rfl,_⟩:=cU hk
      simp only [dK,dF (show¬(i:Int)<(a.length:Int) by omega),dF (show¬(i:Int)<(b.length:Int) by omega),dF h3,dS]
theorem aHm {a b:List Int} (ha:lA a) (hb:lA b) (hL:a.length≤50000000000) (hM:b.length≤50000000000):∃r,lA r∧r.length≤max a.length b.length+1∧vD r=vD a+vD b∧Ev (fun K=>oW K a b) r:=by
 obtain⟨r,h1,h2,h3,h4⟩:=aHN (M:=max a.length b.length) ha hb (by omega) (by omega) (by omega) _ 0 [] 0 rfl (by omega) rfl lA.nil (by omega) (by omega) (by omega) (by simp [W])
 refine⟨r,h2,h1,h3,⟨max a.length b.length+2,fun K hK=>?_⟩⟩
 have:=h4 K K (by omega)
 simp only [Int.natCast_zero] at this
 simp only [oW,this,oB,oD]
theorem aA2 {a b:List Int} (ha:lA a) (hb:lA b) (hbl:b.length≤a.length) (hv:vD b≤vD a) (hL:a.length≤50000000000):∀(t i:Nat) (out:List Int) (c:Int),i+t=a.length→out.length=i→lA out→0≤c→c≤1→W out 0 i-c*PB i=W a 0 i-W b 0 i→
  ∃r,r.length=a.length∧lA r∧vD r=vD a-vD b∧∀K k,t<k→eL K a b k out c (i:Int)=some r
 |0,i,out,c,hi,ho,hD,hc0,hc1,hI=>by
  have:i=a.length:=by omega
  subst this
  refine⟨out,ho,hD,?_,fun K k hk=>?_⟩
  ·rw [yY (u:=b) hbl] at hI
   have hlt:=hD.lt
   unfold vD at *
   rw [ho] at hlt ⊢
   have:c=0:=by
    rcases Int.lt_or_le 0 c with h|h
    ·have:c=1:=by omega
     subst this
     omega
    ·omega
   subst this
   omega
  ·obtain⟨k',rfl,_⟩:=cU hk
   simp [eL]
 |t+1,i,out,c,hi,ho,hD,hc0,hc1,hI=>by
  have ha':=ha i
  have hb':=hb i
  have e1:decide ((i:Int)<(a.length:Int))=true:=dT (by omega)
  have e2:=dU (xs:=a) (i:=i) (by omega)
  have f1:bW (a.getD i 0-b.getD i 0)=some (a.getD i 0-b.getD i 0):=oA (by omega)
  have f2:bW (a.getD i 0-b.getD i 0-c)=some (a.getD i 0-b.getD i 0-c):=oA (by omega)
  have f5:bW ((i:Int)+1)=some ((i+1:Nat):Int):=yB (m:=0) (by omega) (by omega)
  have f6:∀x:Int,qO out [x]=some (out++[x]):=fun x=>aLb (by omega)
  by_cases hn:a.getD i 0-b.getD i 0-c<0
  ·have f3:bW (a.getD i 0-b.getD i 0-c+1000000000)=some (a.getD i 0-b.getD i 0-c+1000000000):=oA (by omega)
   obtain⟨r,g1,g2,g3,g4⟩:=aA2 ha hb hbl hv hL t (i+1) (out++[a.getD i 0-b.getD i 0-c+1000000000]) 1 (by omega) (by simp;omega) (hD.snoc (by omega) (by omega)) (by omega) (by omega) (by
    rw [aKI ho,eK,eK,Nat.zero_add]
    simp only [PB]
    grind)
   refine⟨r,g1,g2,g3,fun K k hk=>?_⟩
   obtain⟨k',rfl,_⟩:=cU hk
   simp only [eL,e1,e2,tS,f1,f2,f3,f5,f6,dT hn,d8,oB]
   exact g4 K k' (by omega)
  ·obtain⟨r,g1,g2,g3,g4⟩:=aA2 ha hb hbl hv hL t (i+1) (out++[a.getD i 0-b.getD i 0-c]) 0 (by omega) (by simp;omega) (hD.snoc (by omega) (by omega)) (by omega) (by omega) (by
    rw [aKI ho,eK,eK,Nat.zero_add]
    simp only [PB]
    grind)
   refine⟨r,g1,g2,g3,fun K k hk=>?_⟩
   obtain⟨k',rfl,_⟩:=cU hk
   simp only [eL,e1,e2,tS,f1,f2,f5,f6,dF hn,d8,dS,oB]
   exact g4 K k' (by omega)
theorem yQ {a b:List Int} (ha:lA a) (hb:lA b) (hbl:b.length≤a.length) (hv:vD b≤vD a) (hL:a.length≤50000000000):
  ∃r,r.length=a.length∧lA r∧vD r=vD a-vD b∧Ev (fun K=>fM K a b) r:=by
 obtain⟨r,g1,g2,g3,g4⟩:=aA2 ha hb hbl hv hL a.length 0 [] 0 (by omega) rfl lA.nil (by omega) (by omega) (by simp [W])
 refine⟨r,g1,g2,g3,⟨a.length+1,fun K hK=>?_⟩⟩
 have h:=g4 K K (by omega)
 simp only [Int.natCast_zero] at h
 simp only [fM,oB,h,nL]
theorem aBo {u v:List Int} (hu:lA u) (hv:lA v) (hl:u.length=v.length) (hL:u.length≤9000000000000):∀(j:Nat),j≤u.length→∀K k,j<k→
  eE K u v k ((j:Int)-1)=some (if W u 0 j<W v 0 j then .ret (-1) else if W v 0 j<W u 0 j then .ret 1 else .go ())
 |0,_,K,k,hk=>by
  obtain⟨k',rfl,_⟩:=cU hk
  simp [eE,W]
 |j+1,hj,K,k,hk=>by
  obtain⟨k',rfl,hk'⟩:=cU hk
  have e0:((j+1:Nat):Int)-1=(j:Int):=by omega
  have e1:decide (0≤(j:Int))=true:=dT (by omega)
  have e2:=dU (xs:=u) (i:=j) (by omega)
  have e3:=dU (xs:=v) (i:=j) (by omega)
  rw [e0]
  rcases Int.lt_trichotomy (u.getD j 0) (v.getD j 0) with h|h|h
  ·have:=aGz hu hv h
   simp only [eE,e1,e2,e3,dT h,d8,oB]
   rw [if_pos this]
  ·have e5:bW ((j:Int)-1)=some ((j:Int)-1):=oA (by omega)
   have ih:=aBo hu hv hl hL j (by omega) K k' (by omega)
   have c1:(W u 0 (j+1)<W v 0 (j+1))↔(W u 0 j<W v 0 j):=by rw [eK,eK,Nat.zero_add,h];omega
   have c2:(W v 0 (j+1)<W u 0 (j+1))↔(W v 0 j<W u 0 j):=by rw [eK,eK,Nat.zero_add,h];omega
   simp only [eE,e1,e2,e3,dF (show¬u.getD j 0<v.getD j 0 by omega),dF (show¬v.getD j 0<u.getD j 0 by omega),e5,d8,dS,oB,c1,c2]
   exact ih
  ·have:=aGz hv hu h
   simp only [eE,e1,e2,e3,dF (show¬u.getD j 0<v.getD j 0 by omega),dT h,d8,dS,oB]
   rw [if_neg (by omega),if_pos this]
theorem tH {u v:List Int} (hu:lA u) (hv:lA v) (tu:Top u) (tv:Top v) (hL:u.length≤9000000000000):Ev (fun K=>dJ K u v) (tZ (vD u) (vD v)):=by
 refine⟨u.length+1,fun K hK=>?_⟩
 unfold tZ
 rcases Nat.lt_trichotomy u.length v.length with h|h|h
 ·have:=aEd hu hv tv h
  simp only [dJ,dT (show(u.length:Int)<(v.length:Int) by omega),d8]
  rw [if_pos this]
 ·have e2:bW ((u.length:Int)-1)=some ((u.length:Int)-1):=oA (by omega)
  have e3:=aBo hu hv h hL u.length (Nat.le_refl _) K K (by omega)
  simp only [dJ,dF (show¬(u.length:Int)<(v.length:Int) by omega),dF (show¬(v.length:Int)<(u.length:Int) by omega),e2,e3,dS,oB]
  unfold vD
  rw [←h]
  by_cases h1:W u 0 u.length<W v 0 u.length
  ·rw [if_pos h1,if_pos h1]
  ·rw [if_neg h1,if_neg h1]
   by_cases h2:W v 0 u.length<W u 0 u.length
   ·rw [if_pos h2,if_pos h2]
   ·rw [if_neg h2,if_neg h2];rfl
 ·have:=aEd hv hu tu h
  simp only [dJ,dF (show¬(u.length:Int)<(v.length:Int) by omega),dT (show(v.length:Int)<(u.length:Int) by omega),d8,dS]
  rw [if_neg (by omega),if_pos this]
theorem aCy (x:Int) (hL:dl x.natAbs≤60000000000):Ev (fun K=>lC K (Z x)) (Z (-x)):=by
 unfold lC
 have h:=jM (!decide (x<0)) (dA x.natAbs) (by show dl _≤_;omega)
 rw [eH,Int.toNat_natCast,s5] at h
 have e:(if(!decide (x<0))=true then -(x.natAbs:Int) else(x.natAbs:Int))=-x:=by
  by_cases h0:x<0
  ·rw [dT h0];simp;omega
  ·rw [dF h0];simp;omega
 rw [e] at h
 exact Ev.bind h (Ev.pure _)
theorem aFv {x y:Int} (hx:dl x.natAbs≤40000000000) (hy:dl y.natAbs≤40000000000):Ev (fun K=>nN K (Z x) (Z y)) (Z (x+y)):=by
 have dx:=dA x.natAbs
 have dy:=dA y.natAbs
 have vx:=eH x.natAbs
 have vy:=eH y.natAbs
 have tx:=nE x.natAbs
 have ty:=nE y.natAbs
 have lx:(dD x.natAbs).length≤40000000000:=hx
 have ly:(dD y.natAbs).length≤40000000000:=hy
 unfold nN
 simp only [Z_d,sR]
 by_cases hs:(decide (x<0)==decide (y<0))=true
 ·simp only [hs,d8]
  obtain⟨r,h1,h2,h3,h4⟩:=aHm dx dy (by omega) (by omega)
  have h5:=jM (decide (x<0)) h1 (by omega)
  refine Ev.bind h4 (Ev.bind h5 ?_)
  rw [s5]
  have hs':(x<0)↔(y<0):=by simpa using hs
  have:(if decide (x<0)=true then -(((vD r).toNat:Nat):Int) else(((vD r).toNat:Nat):Int))=x+y:=by
   by_cases h:x<0
   ·rw [if_pos (by simpa using h)];omega
   ·rw [if_neg (by simpa using h)];omega
  rw [this]
  exact Ev.pure _
 ·simp only [Bool.not_eq_true] at hs
  simp only [hs,dS]
  have hs':¬((x<0)↔(y<0)):=by simpa using hs
  refine Ev.bind (tH dx dy tx ty (by omega)) ?_
  rw [vx,vy]
  unfold tZ
  by_cases hlt:x.natAbs<y.natAbs
  ·have hle:(dD x.natAbs).length≤(dD y.natAbs).length:=qD (by omega)
   obtain⟨r,h1,h2,h3,h4⟩:=yQ dy dx hle (by omega) (by omega)
   have h5:=jM (decide (y<0)) h2 (by omega)
   rw [if_pos (by omega)]
   refine Ev.congr (g:=fun K=>(fM K (dD y.natAbs) (dD x.natAbs)).bind fun v16=>(cA K (decide (y<0)) v16).bind fun v18=>some v18) ?_ (fun K=>rfl)
   refine Ev.bind h4 (Ev.bind h5 ?_)
   rw [s5]
   have:(if decide (y<0)=true then -(((vD r).toNat:Nat):Int) else(((vD r).toNat:Nat):Int))=x+y:=by
    by_cases h:y<0
    ·rw [if_pos (by simpa using h)];omega
    ·rw [if_neg (by simpa using h)];omega
   rw [this]
   exact Ev.pure _
  ·have hle:(dD y.natAbs).length≤(dD x.natAbs).length:=qD (by omega)
   obtain⟨r,h1,h2,h3,h4⟩:=yQ dx dy hle (by omega) (by omega)
   have h5:=jM (decide (x<0)) h2 (by omega)
   have hc:decide ((if(x.natAbs:Int)<y.natAbs then(-1:Int) else if(y.natAbs:Int)<x.natAbs then 1 else 0)<0)=false:=by
    rw [if_neg (by omega)]
    split<;>rfl
   simp only [hc,dS]
   refine Ev.bind h4 (Ev.bind h5 ?_)
   rw [s5]
   have:(if decide (x<0)=true then -(((vD r).toNat:Nat):Int) else(((vD r).toNat:Nat):Int))=x+y:=by
    by_cases h:x<0
    ·rw [if_pos (by simpa using h)];omega
    ·rw [if_neg (by simpa using h)];omega
   rw [this]
   exact Ev.pure _
theorem aFm {o0:List Int} {x y:aZ} {i:Nat} (ha:lA x.d) (hb:lA y.d) (hi:i<x.d.length) (hl:i+y.d.length≤o0.length) (hL:o0.length≤9000000000000):∀(t k:Nat) (out:List Int) (c:Int),k+t=y.d.length→aEJ o0 y.d i (x.d.getD i 0) out c k→
  ∃out' c',aEJ o0 y.d i (x.d.getD i 0) out' c' y.d.length∧∀K n,t<n→gK K x y (i:Int) n out c (k:Int)=some (out',c')
 |0,k,out,c,hk,hP=>by
  have:k=y.d.length:=by omega
  subst this
  refine⟨out,c,hP,fun K n hn=>?_⟩
  obtain⟨n',rfl,_⟩:=cU hn
  simp [gK]
 |t+1,k,out,c,hk,hP=>by
  have hf:=ha i
  obtain⟨g1,g2,g3,g4,g5,g6,g7⟩:=hP.step (by omega) hf.1 hf.2 hb
  have c0:=hP.c0
  have c1:=hP.c1
  have hlo:=hP.len
  have e0:=dU (xs:=x.d) (i:=i) hi
  have e1:decide ((k:Int)<(y.d.length:Int))=true:=dT (by omega)
  have e2:=dU (xs:=y.d) (i:=k) (by omega)
  have e3:bW ((k:Int)+1)=some ((k+1:Nat):Int):=yB (m:=0) (by omega) (by omega)
  have e4:bW ((i:Int)+(k:Int))=some ((i+k:Nat):Int):=yB (m:=0) (by omega) (by omega)
  have e5:=dU (xs:=out) (i:=i+k) (by omega)
  have e6:bW (x.d.getD i 0*y.d.getD k 0)=some (x.d.getD i 0*y.d.getD k 0):=oA (by omega)
  have e7:bW (out.getD (i+k) 0+x.d.getD i 0*y.d.getD k 0)=some (out.getD (i+k) 0+x.d.getD i 0*y.d.getD k 0):=oA (by omega)
  have e8:bW (out.getD (i+k) 0+x.d.getD i 0*y.d.getD k 0+c)=some (out.getD (i+k) 0+x.d.getD i 0*y.d.getD k 0+c):=oA (by omega)
  have e9:vW (out.getD (i+k) 0+x.d.getD i 0*y.d.getD k 0+c) 1000000000=some ((out.getD (i+k) 0+x.d.getD i 0*y.d.getD k 0+c)/1000000000):=sA (by omega) (by omega) (by omega)
  have e10:vM (out.getD (i+k) 0+x.d.getD i 0*y.d.getD k 0+c) 1000000000=some ((out.getD (i+k) 0+x.d.getD i 0*y.d.getD k 0+c)%1000000000):=nR (by omega) (by omega)
  have e12:∀z,qC out ((i+k:Nat):Int) z=some (out.set (i+k) z):=fun z=>sC (by omega)
  obtain⟨o,d,h1,h2⟩:=aFm ha hb hi hl hL t (k+1) _ _ (by omega) g7
  refine⟨o,d,h1,fun K n hn=>?_⟩
  obtain⟨n',rfl,_⟩:=cU hn
  simp only [gK,e0,e1,e2,e3,e4,e5,e6,e7,e8,e9,e10,e12,d8,oB]
  exact h2 K n' (by omega)
theorem aFU {x y:aZ} (ha:lA x.d) (hb:lA y.d) (hL:x.d.length+y.d.length≤9000000000000):∀(t i:Nat) (out:List Int),i+t=x.d.length→aBM x.d y.d out i→
  ∃out',aBM x.d y.d out' x.d.length∧tQ (fun K k=>gL K x y k out (i:Int)) out'
 |0,i,out,hi,hP=>by
  have:i=x.d.length:=by omega
  subst this
  refine⟨out,hP,tQ.of 1 fun K n hn=>?_⟩
  obtain⟨n',rfl,_⟩:=cU (n:=0) hn
  simp [gL]
 |t+1,i,out,hi,hP=>by
  have hlo:=hP.len
  obtain⟨o,c,h1,h2⟩:=aFm ha hb (by omega) (by omega) (by omega) y.d.length 0 out 0 (by omega) hP.row
  have hlo2:=h1.len
  obtain⟨r,h3,h4⟩:=aFU ha hb hL t (i+1) _ (by omega) (hP.next (by omega) h1)
  refine⟨r,h3,tQ.step ?_⟩
  have e1:decide ((i:Int)<(x.d.length:Int))=true:=dT (by omega)
  have e3:bW ((i:Int)+1)=some ((i+1:Nat):Int):=yB (m:=0) (by omega) (by omega)
  have e4:bW ((i:Int)+(y.d.length:Int))=some ((i+y.d.length:Nat):Int):=yB (m:=0) (by omega) (by omega)
  have e5:=dU (xs:=o) (i:=i+y.d.length) (by omega)
  have e6:qC o ((i+y.d.length:Nat):Int) c=some (o.set (i+y.d.length) c):=sC (by omega)
  simp only [gL,e1,d8]
  refine tQ.bind (x:=(o,c)) (f:=fun K=>gK K x y (i:Int) K out 0 0) ⟨y.d.length+1,fun K hK=>h2 K K (by omega)⟩ ?_
  simp only [o6,e3,e4,e5,e6,oB]
  exact h4
theorem xJ {x y:Int} (hL:dl x.natAbs+dl y.natAbs≤60000000000):Ev (fun K=>gW K (Z x) (Z y)) (Z (x*y)):=by
 have dx:=dA x.natAbs
 have dy:=dA y.natAbs
 have lx:(dD x.natAbs).length=dl x.natAbs:=rfl
 have ly:(dD y.natAbs).length=dl y.natAbs:=rfl
 obtain⟨r,h1,h2⟩:=aFU (x:=Z x) (y:=Z y) dx dy (by rw [rE,rE];omega) (Z x).d.length 0 _ (by omega) (aBM.start _ _)
 have e1:bW (((Z x).d.length:Int)+((Z y).d.length:Int))=some (((Z x).d.length+(Z y).d.length:Nat):Int):=yB (m:=0) (by omega) (by rw [rE,rE];omega)
 have e2:vK (((Z x).d.length+(Z y).d.length:Nat):Int) (0:Int)=some (List.replicate ((Z x).d.length+(Z y).d.length) 0):=yV (by rw [rE,rE];omega)
 unfold gW
 simp only [e1,e2,oB]
 refine Ev.bind h2.ev ?_
 have h3:=jM ((Z x).neg != (Z y).neg) h1.ok (by rw [h1.len,rE,rE];omega)
 unfold pG
 refine Ev.bind h3 ?_
 have hv:vD r=x.natAbs*y.natAbs:=by
  have:=h1.val
  rw [←h1.len] at this
  have vx:=eH x.natAbs
  have vy:=eH y.natAbs
  unfold vD at *
  rw [this]
  show W (dD x.natAbs) 0 (dD x.natAbs).length*W (dD y.natAbs) 0 (dD y.natAbs).length=_
  rw [vx,vy]
 rw [s5,sR,sR,hv]
 have:(if(decide (x<0) != decide (y<0))=true then -((((x.natAbs:Int)*y.natAbs).toNat:Nat):Int) else((((x.natAbs:Int)*y.natAbs).toNat:Nat):Int))=x*y:=by
  have h0:0≤(x.natAbs:Int)*y.natAbs:=Int.mul_nonneg (by omega) (by omega)
  rw [Int.toNat_of_nonneg h0]
  exact aEc x y
 rw [this]
 exact Ev.pure _
end Go.Proofs.YtcjdedkdoagifaaGreat
set_option linter.unusedVariables false
namespace Go.Proofs.YtcjdedkdoagifaaGreat
theorem aAb {u:List Int} (hu:lA u) (h:u.length≤2):gG u=some (vD u):=by
 have h0:=hu 0
 have h1:=hu 1
 have d0:=tS u 0
 have d1:=tS u 1
 simp only [Int.natCast_zero,Int.natCast_one] at d0 d1
 have f1:bW (u.getD 1 0*1000000000)=some (u.getD 1 0*1000000000):=oA (by omega)
 have f2:bW (u.getD 1 0*1000000000+u.getD 0 0)=some (u.getD 1 0*1000000000+u.getD 0 0):=oA (by omega)
 simp only [gG,d0,d1,f1,f2,oB]
 have:vD u=W u 0 2:=(yY h).symm
 rw [this,W2,Nat.zero_add]
 congr 1;omega
theorem aDr (n:Nat):(Z (n:Int)).d=dD n:=by rw [Z_d];simp
theorem aCZ (n k:Nat) (hk:k≤999999999) (hL:dl n≤40000000000):Ev (fun K=>iN K (dD n) (k:Int)) (dD (n*k)):=by
 unfold iN
 have h1:=jM false (dA n) (by show dl _≤_;omega)
 rw [eH,Int.toNat_natCast,m6] at h1
 refine Ev.bind h1 (Ev.bind (yS (n:=(k:Int)) (by omega)) ?_)
 have hk2:dl k≤1:=aAF (by
  have:PB 1=1000000000:=by decide
  omega)
 refine Ev.bind (xJ (x:=(n:Int)) (y:=(k:Int)) (by simp;omega)) ?_
 have:(Z ((n:Int)*k)).d=dD (n*k):=by rw [←Int.natCast_mul,aDr]
 rw [this]
 exact Ev.pure _
theorem aKy (a b:Int):decide (tZ a b≤0)=decide (a≤b):=by
 unfold tZ
 by_cases h:a<b
 ·rw [if_pos h,dT (by omega),dT (by omega)]
 ·rw [if_neg h]
  by_cases h2:b<a
  ·rw [if_pos h2,dF (by omega),dF (by omega)]
  ·rw [if_neg h2,dT (by omega),dT (by omega)]
theorem aLe (a b:Int):decide (tZ a b<0)=decide (a<b):=by
 unfold tZ
 by_cases h:a<b
 ·rw [if_pos h,dT (by omega),dT h]
 ·rw [if_neg h,dF h]
  by_cases h2:b<a
  ·rw [if_pos h2];rfl
  ·rw [if_neg h2];rfl
theorem aBf {n R:Nat} (hn:0<n) (hL:dl n≤40000000000) (hR:dl R≤90000000000):∀(t lo hi:Nat),hi-lo≤t→lo≤hi→hi≤999999999→lo*n≤R→R<(hi+1)*n→tQ (fun K k=>cR K (dD n) (Z (R:Int)) k (lo:Int) (hi:Int)) ((R/n:Nat):Int):=by
 intro t
 induction t with
 |zero=>
  intro lo hi ht hle hhi h1 h2
  have:lo=hi:=by omega
  subst this
  refine tQ.of 1 fun K k hk=>?_
  obtain⟨k',rfl,_⟩:=cU (n:=0) hk
  have:R/n=lo:=Nat.div_eq_of_lt_le h1 h2
  simp only [cR,dF (show¬(lo:Int)<(lo:Int) by omega),dS,this]
 |succ t ih=>
  intro lo hi ht hle hhi h1 h2
  by_cases hlt:lo<hi
  ·refine tQ.step ?_
   have e1:bW ((lo:Int)+(hi:Int))=some ((lo+hi:Nat):Int):=yB (m:=0) (by omega) (by omega)
   have e2:bW (((lo+hi:Nat):Int)+1)=some ((lo+hi+1:Nat):Int):=yB (m:=0) (by omega) (by omega)
   have e3:vW ((lo+hi+1:Nat):Int) 2=some (((lo+hi+1)/2:Nat):Int):=by rw [sA (by omega) (by omega) (by omega)];congr 1
   obtain⟨mid,hm⟩:∃m,(lo+hi+1)/2=m:=⟨_,rfl⟩
   rw [hm] at e3
   have hm1:lo<mid:=by omega
   have hm2:mid≤hi:=by omega
   simp only [cR,dT (show(lo:Int)<(hi:Int) by omega),d8,e1,e2,e3,oB]
   refine tQ.bind (aCZ n mid (by omega) hL) ?_
   have hdm:dl (n*mid)≤9000000000000:=by
    have:=aCw n mid
    have:dl mid≤1:=aAF (by
     have:PB 1=1000000000:=by decide
     omega)
    omega
   rw [aDr]
   refine tQ.bind (tH (dA _) (dA _) (nE _) (nE _) hdm) ?_
   rw [eH,eH,aKy]
   by_cases hc:n*mid≤R
   ·have e4:decide (((n*mid:Nat):Int)≤(R:Int))=true:=dT (by omega)
    simp only [e4,d8]
    exact ih mid hi (by omega) hm2 hhi (by rw [Nat.mul_comm];exact hc) h2
   ·have e4:decide (((n*mid:Nat):Int)≤(R:Int))=false:=dF (by omega)
    have e5:bW ((mid:Int)-1)=some ((mid-1:Nat):Int):=yB (m:=0) (by omega) (by omega)
    simp only [e4,dS,e5,oB]
    refine ih lo (mid-1) (by omega) (by omega) (by omega) h1 ?_
    rw [show mid-1+1=mid by omega,Nat.mul_comm]
    omega
  ·have:lo=hi:=by omega
   subst this
   refine tQ.of 1 fun K k hk=>?_
   obtain⟨k',rfl,_⟩:=cU (n:=0) hk
   have:R/n=lo:=Nat.div_eq_of_lt_le h1 h2
   simp only [cR,dF (show¬(lo:Int)<(lo:Int) by omega),dS,this]
theorem aBi {a:List Int} {n:Nat} (ha:lA a) (hn:0<n) (hL:dl n≤40000000000) (hM:a.length≤40000000000):∀(j:Nat) (q:List Int) (r:Nat),j≤a.length→q.length=a.length→Dr q j (a.length-j)→r<n→W a j (a.length-j)=n*W q j (a.length-j)+r→
  ∃q' r',q'.length=a.length∧lA q'∧r'<n∧vD a=n*vD q'+(r':Nat)∧tQ (fun K k=>cF K a (dD n) k q (dD r) ((j:Int)-1)) (q',dD r')
 |0,q,r,hj,hq,hD,hr,hI=>by
  refine⟨q,r,hq,Dr.ok (by rw [hq];simpa using hD),hr,?_,tQ.of 1 fun K k hk=>?_⟩
  ·simp only [Nat.sub_zero] at hI
   unfold vD
   rw [hq];exact hI
  ·obtain⟨k',rfl,_⟩:=cU (n:=0) hk
   simp [cF]
 |j+1,q,r,hj,hq,hD,hr,hI=>by
  have ha':=ha j
  have e0:((j+1:Nat):Int)-1=(j:Int):=by omega
  have e1:decide (0≤(j:Int))=true:=dT (by omega)
  have e2:=dU (xs:=a) (i:=j) (by omega)
  have e3:bW ((j:Int)-1)=some ((j:Int)-1):=oA (by omega)
  have e4:=dU (xs:=q) (i:=j) (by omega)
  have e5:∀v,qC q (j:Int) v=some (q.set j v):=fun v=>sC (by omega)
  have hrl:dl r≤dl n:=qD (by omega)
  have hrl':(dD r).length=dl r:=rfl
  have e6:qO [a.getD j 0] (dD r)=some (a.getD j 0::dD r):=wD (by simp;omega)
  obtain⟨R,hR⟩:∃R:Nat,(R:Int)=a.getD j 0+1000000000*r:=⟨(a.getD j 0+1000000000*r).toNat,by omega⟩
  have hd:lA (a.getD j 0::dD r):=(dA r).cons ha'.1 ha'.2
  have hv:vD (a.getD j 0::dD r)=R:=by
   rw [hR]
   have:vD (a.getD j 0::dD r)=a.getD j 0+1000000000*vD (dD r):=aGn _ _
   rw [this,eH]
  have h1:=jM false hd (by simp;omega)
  rw [hv,Int.toNat_natCast,m6] at h1
  have hRn:R<1000000000*n:=by
   have:(R:Int)<1000000000*n:=by omega
   omega
  have hRl:dl R≤dl n+1:=aAF (by
   have:=aCX n
   simp only [PB]
   omega)
  have hq1:R/n<1000000000:=Nat.div_lt_of_lt_mul (by rw [Nat.mul_comm];exact hRn)
  have hnm:=Nat.div_add_mod R n
  have hml:=Nat.mod_lt R hn
  have hdig:Ev (fun K=>(bif decide (R<n) then cR K (dD n) (Z (R:Int)) K 0 0 else cR K (dD n) (Z (R:Int)) K 0 999999999)) ((R/n:Nat):Int):=by
   by_cases hlt:R<n
   ·rw [dT hlt];simp only [d8]
    exact(aBf hn hL (by omega) 0 0 0 (by omega) (by omega) (by omega) (by omega) (by omega)).ev
   ·rw [dF hlt];simp only [dS]
    exact(aBf hn hL (by omega) 999999999 0 999999999 (by omega) (by omega) (by omega) (by omega) (by omega)).ev
  have h2:=aCZ n (R/n) (by omega) hL
  have hle:n*(R/n)≤R:=by omega
  obtain⟨s,s1,s2,s3,s4⟩:=yQ (dA R) (dA (n*(R/n))) (qD hle) (by rw [eH,eH];omega) (by show dl R≤_;omega)
  rw [eH,eH] at s3
  have h3:=jM false s2 (by rw [s1];show dl R≤_;omega)
  have hs:(vD s).toNat=R%n:=by omega
  rw [hs,m6] at h3
  have es:a.length-j=(a.length-(j+1))+1:=by omega
  obtain⟨q',r',g1,g2,g3,g4,g5⟩:=aBi ha hn hL hM j (q.set j ((R/n:Nat):Int)) (R%n) (by omega) (by simpa using hq)
   (fun i hi=>by
    by_cases e:i=0
    ·subst e;rw [Nat.add_zero,eU (by omega)];exact⟨Int.natCast_nonneg _,Int.ofNat_lt.2 hq1⟩
    ·rw [fJ (by omega)]
     have:=hD (i-1) (by omega)
     rwa [show j+1+(i-1)=j+i by omega] at this) hml (by
    rw [es,aAX,aAX,eU (by omega),vQ (.inl (by omega)),hI]
    have:(R:Int)=n*(R/n:Nat)+(R%n:Nat):=by rw [←Int.natCast_mul,←Int.natCast_add,hnm]
    grind)
  refine⟨q',r',g1,g2,g3,g4,tQ.step ?_⟩
  rw [e0]
  simp only [cF,e1,e2,e6,d8,oB]
  refine tQ.bind h1 ?_
  rw [aDr]
  refine tQ.bind (tH (dA _) (dA _) (nE _) (nE _) (by show dl R≤_;omega)) ?_
  rw [eH,eH,aLe]
  have fin:tQ (fun K k=>iA K (dD n) q (j:Int) (Z (R:Int)) (cF K a (dD n) k) ((R/n:Nat):Int)) (q',dD r'):=by
   simp only [iA]
   refine tQ.bind h2 ?_
   rw [aDr]
   refine tQ.bind s4 (tQ.bind h3 ?_)
   simp only [e3,e4,e5,oB,aDr]
   exact g5
  by_cases hlt:R<n
  ·have c1:decide ((R:Int)<(n:Int))=true:=dT (by omega)
   rw [dT hlt] at hdig
   simp only [d8] at hdig
   simp only [c1,d8,fT]
   exact tQ.bind hdig fin
  ·have c1:decide ((R:Int)<(n:Int))=false:=dF (by omega)
   rw [dF hlt] at hdig
   simp only [dS] at hdig
   simp only [c1,dS,fT]
   exact tQ.bind hdig fin
theorem aDl (K:Nat) (b:List Int) (x:aZ):∀(k:Nat) (lo hi:Int),fE K b x k lo hi=cR K b x k lo hi
 |0,_,_=>rfl
 |k+1,lo,hi=>by simp only [fE,cR,aDl K b x k]
theorem aDi (K:Nat) (a b:List Int):∀(k:Nat) (q r:List Int) (j:Int),dN K a b k q r j=cF K a b k q r j
 |0,_,_,_=>rfl
 |k+1,q,r,j=>by
  have ih:dN K a b k=cF K a b k:=by funext q r j;exact aDi K a b k q r j
  simp only [dN,cF,jL,fT,lI,iA,aDl,ih]
theorem aEa {m n:Nat} (hn:0<n) (hL:dl n≤40000000000) (hM:dl m≤40000000000):∃q,q.length≤dl m+2∧lA q∧vD q=(m/n:Nat)∧Ev (fun K=>iQ K (dD m) (dD n)) (q,dD (m%n)):=by
 have dm:=dA m;have dn:=dA n
 have vm:=eH m;have vn:=eH n
 have lm:(dD m).length=dl m:=rfl
 have ln:(dD n).length=dl n:=rfl
 obtain⟨q,r,g1,g2,g3,g4,g5⟩:=aBi (a:=dD m) dm hn hL (by omega) (dD m).length (List.replicate (dD m).length 0) 0 (Nat.le_refl _) (by simp) (aEk _ _ _) hn (by simp [W])
 rw [vm] at g4
 have hqn:=g2.nonneg
 have hmn:m=n*(vD q).toNat+r:=by
  have:(m:Int)=((n*(vD q).toNat+r:Nat):Int):=by rw [g4,Int.natCast_add,Int.natCast_mul,Int.toNat_of_nonneg hqn]
  omega
 have hq:(vD q).toNat=m/n:=by
  rw [hmn,Nat.mul_add_div hn,Nat.div_eq_of_lt g3,Nat.add_zero]
 have hr:r=m%n:=by rw [hmn,Nat.mul_add_mod,Nat.mod_eq_of_lt g3]
 subst hr
 rw [w7] at g5
 have e1:vK ((dD m).length:Int) (0:Int)=some (List.replicate (dD m).length 0):=yV (by omega)
 have e2:bW (((dD m).length:Int)-1)=some (((dD m).length:Int)-1):=oA (by omega)
 have core:Ev (fun K=>(vK ((dD m).length:Int) (0:Int)).bind fun x23=>(bW (((dD m).length:Int)-1)).bind fun v28=>(cF K (dD m) (dD n) K x23 [] v28).bind fun(x46,x52)=>jZ K x46 x52) (q,dD (m%n)):=by
  simp only [e1,e2,oB]
  refine Ev.bind g5.ev ?_
  simp only [jZ]
  exact Ev.pure _
 by_cases h1:(dD m).length≤2
 ·by_cases h2:(dD n).length≤2
  ·have b1:=wG h1
   have b2:=wG h2
   have hd:=Nat.div_le_self m n
   have hm:=Nat.mod_le m n
   refine⟨dD (m/n),by have:=aF9 m n;show dl _≤_;omega,dA _,eH _,?_⟩
   have c1:vW (m:Int) (n:Int)=some ((m/n:Nat):Int):=by rw [sA (by omega) (by omega) (by omega)];simp
   have c2:vM (m:Int) (n:Int)=some ((m%n:Nat):Int):=by rw [nR (by omega) (by omega)];simp
   unfold iQ
   simp only [dT (show((dD m).length:Int)≤2 by omega),dT (show((dD n).length:Int)≤2 by omega),d8,aAb dm h1,aAb dn h2,vm,vn,c1,c2,oB]
   refine Ev.bind (yS (by omega)) (Ev.bind (yS (by omega)) ?_)
   rw [aDr,aDr]
   exact Ev.pure _
  ·refine⟨q,by omega,g2,by omega,?_⟩
   unfold iQ
   simp only [dT (show((dD m).length:Int)≤2 by omega),dF (show¬((dD n).length:Int)≤2 by omega),d8,dS]
   exact core
 ·refine⟨q,by omega,g2,by omega,?_⟩
  unfold iQ
  simp only [dF (show¬((dD m).length:Int)≤2 by omega),dS,aDi]
  exact core
theorem aBV {x y a b:Int} (hy:y≠0) (h1:x=y*a+b) (h2:0≤b) (h3:b<y.natAbs):x/y=a∧x%y=b:=by
 have hm:x%y=b:=by
  rw [h1,Int.add_comm,Int.add_mul_emod_self_left]
  by_cases hy0:y<0
  ·have:b%y=b% -y:=by rw [Int.emod_neg]
   rw [this,Int.emod_eq_of_lt h2 (by omega)]
  ·exact Int.emod_eq_of_lt h2 (by omega)
 refine⟨?_,hm⟩
 have h4:=Int.mul_ediv_add_emod x y
 exact Int.eq_of_mul_eq_mul_left hy (by omega)
theorem aCF {x y:Int} (hy:y≠0) (hx:dl x.natAbs≤30000000000) (hy2:dl y.natAbs≤30000000000):Ev (fun K=>kH K (Z x) (Z y)) (Z (x/y),Z (x%y)):=by
 have e1:(((dD y.natAbs).length:Int)==0)=false:=qF (by
  show(dl y.natAbs:Int)≠0
  have:dl y.natAbs≠0:=by rw [Ne,tX];omega
  omega)
 obtain⟨q,q1,q2,q3,q4⟩:=aEa (m:=x.natAbs) (n:=y.natAbs) (by omega) (by omega) (by omega)
 have hdm:=aF9 x.natAbs y.natAbs
 have hmm:=aEu x.natAbs y.natAbs
 have hnd:=Nat.div_add_mod x.natAbs y.natAbs
 have hml:=Nat.mod_lt x.natAbs (show 0<y.natAbs by omega)
 have hln:(dD (x.natAbs%y.natAbs)).length=dl (x.natAbs%y.natAbs):=rfl
 have o1:=jM (decide (x<0) != decide (y<0)) q2 (by omega)
 have o2:=jM false (dA (x.natAbs%y.natAbs)) (by omega)
 rw [q3,Int.toNat_natCast,s5] at o1
 rw [eH,Int.toNat_natCast,m6] at o2
 unfold kH
 simp only [Z_d,sR,e1,dS]
 refine Ev.bind q4 (Ev.bind o1 (Ev.bind o2 ?_))
 have c1:(x.natAbs:Int)=(y.natAbs:Int)*((x.natAbs/y.natAbs:Nat):Int)+((x.natAbs%y.natAbs:Nat):Int):=by
  rw [←Int.natCast_mul,←Int.natCast_add,hnd]
 generalize x.natAbs/y.natAbs=Q at *
 generalize x.natAbs%y.natAbs=R at *
 by_cases hx0:x<0
 ·have e2:decide (x<0)=true:=dT hx0
  by_cases hR:R=0
  ·subst hR
   have e3:decide (0<((Z ((0:Nat):Int)).d.length:Int))=false:=by rw [Z_d,show((0:Nat):Int).natAbs=0 from rfl,w7];rfl
   simp only [e2,e3,d8,dS]
   by_cases hy0:y<0
   ·rw [dT hy0]
    rw [show(y.natAbs:Int)=-y by omega,show(x.natAbs:Int)=-x by omega,Int.neg_mul] at c1
    obtain⟨u1,u2⟩:=aBV (x:=x) (y:=y) (a:=Q) (b:=0) hy (by omega) (by omega) (by omega)
    rw [u1,u2]
    exact Ev.pure _
   ·rw [dF hy0]
    rw [show(y.natAbs:Int)=y by omega,show(x.natAbs:Int)=-x by omega] at c1
    obtain⟨u1,u2⟩:=aBV (x:=x) (y:=y) (a:=-Q) (b:=0) hy (by rw [Int.mul_neg];omega) (by omega) (by omega)
    rw [u1,u2]
    exact Ev.pure _
  ·have hrl:dl R≠0:=by rw [Ne,tX];exact hR
   have e3:decide (0<((Z (R:Int)).d.length:Int))=true:=dT (by rw [rE];simp only [Int.natAbs_natCast];omega)
   simp only [e2,e3,d8]
   have o3:=jM (true != decide (y<0)) (u:=[1]) (lA.nil.cons (by omega) (by omega)) (by simp)
   rw [vD1,show(1:Int).toNat=1 from rfl,s5] at o3
   obtain⟨s,s1,s2,s3,s4⟩:=yQ (dA y.natAbs) (dA R) (qD (by omega)) (by rw [eH,eH];omega) (by show dl _≤_;omega)
   rw [eH,eH] at s3
   have o4:=jM false s2 (by rw [s1];show dl _≤_;omega)
   rw [s3,m6] at o4
   refine Ev.bind o3 ?_
   have hsz:∀b:Bool,dl (if b=true then -(Q:Int) else(Q:Int)).natAbs≤40000000000:=fun b=>by
    cases b<;>simp<;>omega
   have hsz1:∀b:Bool,dl (if b=true then -((1:Nat):Int) else((1:Nat):Int)).natAbs≤40000000000:=fun b=>by
    have:dl 1≤1:=aAF (by decide)
    cases b<;>simp<;>omega
   refine Ev.bind (aFv (hsz _) (hsz1 _)) ?_
   rw [aDr]
   refine Ev.bind s4 (Ev.bind o4 ?_)
   by_cases hy0:y<0
   ·rw [dT hy0]
    rw [show(y.natAbs:Int)=-y by omega,show(x.natAbs:Int)=-x by omega,Int.neg_mul] at c1
    obtain⟨u1,u2⟩:=aBV (x:=x) (y:=y) (a:=Q+1) (b:=y.natAbs-R) hy (by rw [Int.mul_add];omega) (by omega) (by omega)
    rw [u1,u2]
    have:(((y.natAbs:Int)-R).toNat:Int)=y.natAbs-R:=by omega
    rw [this]
    exact Ev.pure _
   ·rw [dF hy0]
    rw [show(y.natAbs:Int)=y by omega,show(x.natAbs:Int)=-x by omega] at c1
    obtain⟨u1,u2⟩:=aBV (x:=x) (y:=y) (a:=-(Q+1)) (b:=y.natAbs-R) hy (by rw [Int.mul_neg,Int.mul_add];omega) (by omega) (by omega)
    rw [u1,u2]
    have:(((y.natAbs:Int)-R).toNat:Int)=y.natAbs-R:=by omega
    rw [this,Int.neg_add]
    exact Ev.pure _
 ·have e2:decide (x<0)=false:=dF hx0
  simp only [e2,dS]
  by_cases hy0:y<0
  ·rw [dT hy0]
   rw [show(y.natAbs:Int)=-y by omega,show(x.natAbs:Int)=x by omega,Int.neg_mul] at c1
   obtain⟨u1,u2⟩:=aBV (x:=x) (y:=y) (a:=-Q) (b:=R) hy (by rw [Int.mul_neg];omega) (by omega) (by omega)
   rw [u1,u2]
   exact Ev.pure _
  ·rw [dF hy0]
   rw [show(y.natAbs:Int)=y by omega,show(x.natAbs:Int)=x by omega] at c1
   obtain⟨u1,u2⟩:=aBV (x:=x) (y:=y) (a:=Q) (b:=R) hy (by omega) (by omega) (by omega)
   rw [u1,u2]
   exact Ev.pure _
theorem aIX (K:Nat):∀(n m k:Nat),n<k→gM K k (m:Int) (n:Int)=some ((Nat.gcd m n:Nat):Int):=by
 intro n
 induction n using Nat.strongRecOn with
 |_ n ih=>
  intro m k hk
  obtain⟨k',rfl,_⟩:=cU hk
  by_cases h:n=0
  ·subst h
   simp [gM]
  ·have e1:decide (0<(n:Int))=true:=dT (by omega)
   have e2:vM (m:Int) (n:Int)=some ((m%n:Nat):Int):=by rw [nR (by omega) (by omega)];simp
   simp only [gM,e1,d8,e2,oB]
   have hlt:=Nat.mod_lt m (show 0<n by omega)
   rw [ih (m%n) hlt n k' (by omega)]
   congr 2
   rw [Nat.gcd_comm m n,Nat.gcd_rec n m,Nat.gcd_comm]
theorem aIY:∀(n m:Nat),dl m≤30000000000→dl n≤30000000000→∃r,tQ (fun K k=>fH K k (Z (n:Int)) (Z (m:Int))) r∧(r=.ret (Z (Nat.gcd m n:Nat))∨r=.go (Z (Nat.gcd m n:Nat))):=by
 intro n
 induction n using Nat.strongRecOn with
 |_ n ih=>
  intro m hm hn
  by_cases h:n=0
  ·subst h
   refine⟨.go (Z m),tQ.of 1 fun K k hk=>?_,.inr (by simp)⟩
   obtain⟨k',rfl,_⟩:=cU (n:=0) hk
   have e:decide (0<((Z ((0:Nat):Int)).d.length:Int))=false:=by rw [rE,show((0:Nat):Int).natAbs=0 from rfl,uO];rfl
   simp only [fH,e,dS]
  ·have e1:decide (0<((dD n).length:Int))=true:=dT (by
    show(0:Int)<dl n
    have hl:dl n≠0:=by rw [Ne,tX];exact h
    omega)
   have hlt:=Nat.mod_lt m (show 0<n by omega)
   obtain⟨r,h1,h2⟩:=ih (m%n) hlt n hn (Nat.le_trans (aEu _ _) hm)
   have hg:Nat.gcd n (m%n)=Nat.gcd m n:=by rw [Nat.gcd_comm m n,Nat.gcd_rec n m,Nat.gcd_comm]
   rw [hg] at h2
   have hdiv:=aCF (x:=(m:Int)) (y:=(n:Int)) (by omega) (by simpa using hm) (by simpa using hn)
   rw [←Int.natCast_emod] at hdiv
   by_cases hs:dl m≤2∧dl n≤2
   ·refine⟨.ret (Z (Nat.gcd m n:Nat)),tQ.step ?_,.inl rfl⟩
    have b1:=wG (n:=m) hs.1
    have b2:=wG (n:=n) hs.2
    have hgl:Nat.gcd m n≤n:=Nat.gcd_le_right m (by omega)
    have f1:decide (((dD m).length:Int)≤2)=true:=dT (by have:(dD m).length=dl m:=rfl;omega)
    have f2:decide (((dD n).length:Int)≤2)=true:=dT (by have:(dD n).length=dl n:=rfl;omega)
    simp only [fH,e1,f1,f2,d8,aDr,aAb (dA m) hs.1,aAb (dA n) hs.2,eH,oB]
    refine tQ.bind (x:=((Nat.gcd m n:Nat):Int)) (f:=fun K=>gM K K (m:Int) (n:Int)) ⟨n+1,fun K hK=>aIX K n m K (by omega)⟩ ?_
    simp only [o8]
    exact tQ.bind (yS (by omega)) (tQ.of 0 fun _ _ _=>rfl)
   ·refine⟨r,tQ.step ?_,h2⟩
    simp only [fH,e1,d8,aDr]
    by_cases hs1:dl m≤2
    ·have f1:decide (((dD m).length:Int)≤2)=true:=dT (by have:(dD m).length=dl m:=rfl;omega)
     have f2:decide (((dD n).length:Int)≤2)=false:=dF (by have:(dD n).length=dl n:=rfl;omega)
     simp only [f1,f2,d8,dS]
     exact tQ.bind hdiv h1
    ·have f1:decide (((dD m).length:Int)≤2)=false:=dF (by have:(dD m).length=dl m:=rfl;omega)
     simp only [f1,dS]
     exact tQ.bind hdiv h1
theorem aFQ {x y:Int} (hx:dl x.natAbs≤30000000000) (hy:dl y.natAbs≤30000000000):Ev (fun K=>nM K (Z x) (Z y)) (Z (Int.gcd x y:Nat)):=by
 unfold nM
 have h1:=jM false (dA x.natAbs) (by show dl _≤_;omega)
 have h2:=jM false (dA y.natAbs) (by show dl _≤_;omega)
 rw [eH,m6,Int.toNat_natCast] at h1 h2
 simp only [Z_d]
 refine Ev.bind h1 (Ev.bind h2 ?_)
 obtain⟨r,h3,h4⟩:=aIY y.natAbs x.natAbs hx hy
 refine Ev.bind h3.ev ?_
 rcases h4 with rfl|rfl
 ·exact Ev.pure _
 ·exact Ev.pure _
theorem aEf {x y:Int} (hx:dl x.natAbs≤40000000000) (hy:dl y.natAbs≤40000000000):Ev (fun K=>mI K (Z x) (Z y)) (tZ x y):=by
 have dx:=dA x.natAbs;have dy:=dA y.natAbs
 have tx:=nE x.natAbs;have ty:=nE y.natAbs
 have lx:(dD x.natAbs).length=dl x.natAbs:=rfl
 have ly:(dD y.natAbs).length=dl y.natAbs:=rfl
 unfold mI
 simp only [Z_d,sR]
 by_cases h1:x<0
 ·by_cases h2:y<0
  ·simp only [dT h1,dT h2,bne_self_eq_false,dS,d8]
   have h:=tH dy dx ty tx (by omega)
   rw [eH,eH] at h
   have e:tZ (y.natAbs:Int) (x.natAbs:Int)=tZ x y:=by
    unfold tZ
    by_cases a:x<y
    ·rw [if_pos a,if_pos (by omega)]
    ·rw [if_neg a,if_neg (by omega)]
     by_cases b:y<x
     ·rw [if_pos b,if_pos (by omega)]
     ·rw [if_neg b,if_neg (by omega)]
   rw [e] at h
   exact Ev.bind h (Ev.pure _)
  ·have e:(decide (x<0) != decide (y<0))=true:=by rw [dT h1,dF h2];rfl
   simp only [e,d8]
   simp only [dT h1,d8]
   unfold tZ
   rw [if_pos (by omega)]
   exact Ev.pure _
 ·by_cases h2:y<0
  ·have e:(decide (x<0) != decide (y<0))=true:=by rw [dF h1,dT h2];rfl
   simp only [e,d8]
   simp only [dF h1,dS]
   unfold tZ
   rw [if_neg (by omega),if_pos (by omega)]
   exact Ev.pure _
  ·simp only [dF h1,dF h2,bne_self_eq_false,dS]
   have h:=tH dx dy tx ty (by omega)
   rw [eH,eH,show(x.natAbs:Int)=x by omega,show(y.natAbs:Int)=y by omega] at h
   exact Ev.bind h (Ev.pure _)
theorem aHB {x:Int} (hx:dl x.natAbs≤40000000000):Ev (fun K=>oY K (Z x)) x.sign:=by
 unfold oY
 have h:=aEf (x:=x) (y:=0) hx (by rw [show Int.natAbs 0=0 from rfl,uO];omega)
 have e:Z 0=(⟨false,[]⟩:aZ):=by rw [show(0:Int)=((0:Nat):Int) from rfl,←m6];rfl
 rw [e] at h
 have e2:tZ x 0=x.sign:=by
  unfold tZ
  by_cases a:x<0
  ·rw [if_pos a,Int.sign_eq_neg_one_of_neg a]
  ·rw [if_neg a]
   by_cases b:0<x
   ·rw [if_pos b,Int.sign_eq_one_of_pos b]
   ·have:x=0:=by omega
    subst this;rfl
 rw [e2] at h
 exact Ev.bind h (Ev.pure _)
theorem aFx (x y:aZ) (hl:x.d.length=y.d.length) (hL:x.d.length≤9000000000000):∀(t i:Nat),i+t=x.d.length→∀K k,t<k→gI K x y k (i:Int)=some (if x.d.drop i=y.d.drop i then .go () else .ret false)
 |0,i,hi,K,k,hk=>by
  obtain⟨k',rfl,_⟩:=cU hk
  have:i=x.d.length:=by omega
  subst this
  simp only [gI,dF (show¬(x.d.length:Int)<(x.d.length:Int) by omega),dS]
  rw [if_pos]
  rw [List.drop_of_length_le (Nat.le_refl _),List.drop_of_length_le (by omega)]
 |t+1,i,hi,K,k,hk=>by
  obtain⟨k',rfl,_⟩:=cU hk
  have e1:decide ((i:Int)<(x.d.length:Int))=true:=dT (by omega)
  have e2:=dU (xs:=x.d) (i:=i) (by omega)
  have e3:=dU (xs:=y.d) (i:=i) (by omega)
  have e5:bW ((i:Int)+1)=some ((i+1:Nat):Int):=yB (m:=0) (by omega) (by omega)
  have dx:x.d.drop i=x.d.getD i 0::x.d.drop (i+1):=by
   rw [List.drop_eq_getElem_cons (by omega)];simp [List.getD_eq_getElem?_getD,show i<x.d.length by omega]
  have dy:y.d.drop i=y.d.getD i 0::y.d.drop (i+1):=by
   rw [List.drop_eq_getElem_cons (by omega)];simp [List.getD_eq_getElem?_getD,show i<y.d.length by omega]
  by_cases h:x.d.getD i 0=y.d.getD i 0
  ·have ih:=aFx x y hl hL t (i+1) (by omega) K k' (by omega)
   simp only [gI,e1,e2,e3,e5,nF h,d8,dS,oB,ih]
   by_cases hd:x.d.drop (i+1)=y.d.drop (i+1)
   ·rw [if_pos hd,if_pos (by rw [dx,dy,h,hd])]
   ·rw [if_neg hd,if_neg (by rw [dx,dy];intro e;exact hd (List.cons.inj e).2)]
  ·simp only [gI,e1,e2,e3,nT h,d8,oB]
   rw [if_neg (by rw [dx,dy];intro e;exact h (List.cons.inj e).1)]
theorem aDY (x y:aZ) (hL:x.d.length≤9000000000000):Ev (fun K=>mO K x y) (decide (x=y)):=by
 refine⟨x.d.length+1,fun K hK=>?_⟩
 unfold mO
 by_cases h1:x.neg=y.neg
 ·have e1:(x.neg != y.neg)=false:=by rw [h1];exact bne_self_eq_false _
  by_cases h2:x.d.length=y.d.length
  ·have e2:((x.d.length:Int) != (y.d.length:Int))=false:=nF (by omega)
   have h:=aFx x y h2 hL x.d.length 0 (by omega) K K (by omega)
   simp only [Int.natCast_zero,List.drop_zero] at h
   simp only [e1,e2,dS,h,oB]
   by_cases h3:x.d=y.d
   ·rw [if_pos h3,dT (by cases x;cases y;simp_all)];rfl
   ·rw [if_neg h3,dF (by intro e;subst e;exact h3 rfl)]
  ·have e2:((x.d.length:Int) != (y.d.length:Int))=true:=nT (by omega)
   simp only [e1,e2,dS,d8]
   rw [dF (by intro e;subst e;exact h2 rfl)]
 ·have e1:(x.neg != y.neg)=true:=bne_iff_ne.2 h1
  simp only [e1,d8]
  rw [dF (by intro e;subst e;exact h1 rfl)]
end Go.Proofs.YtcjdedkdoagifaaGreat
set_option linter.unusedVariables false
set_option maxRecDepth 100000
namespace Go.Proofs.YtcjdedkdoagifaaGreat
theorem tyA44:TyA Tryz.prog 44 4:=mkA Tryz.underlying44 rfl (by kernel_rfl)
theorem tyB44:TyB Tryz.prog 44 [(0,2),(2,2)] (([pB false]++[pS cI ([]:List Int)])++([pB false]++[pS cI ([]:List Int)])):=mkB (z:=.agg #[.bool false,.slice none 0 0,.bool false,.slice none 0 0]) (by kernel_rfl) Tryz.underlying44 (by kernel_rfl) (fun M=>b0.app (b0.app (show b0 M [pB false] [.bool false] from zU1) (show b0 M [pS cI ([]:List Int)] [.slice none 0 0] from⟨dX cI M,trivial⟩)) (b0.app (show b0 M [pB false] [.bool false] from zU1) (show b0 M [pS cI ([]:List Int)] [.slice none 0 0] from⟨dX cI M,trivial⟩)))
theorem tyF44_0:TyF Tryz.prog 44 0 0:=mkF (ft:=42) (k:=1) Tryz.underlying44 rfl rfl rfl (by kernel_rfl)
theorem tyF44_1:TyF Tryz.prog 44 1 2:=mkF (ft:=42) (k:=1) Tryz.underlying44 rfl rfl rfl (by kernel_rfl)
theorem tyZ44:TyZ Tryz.prog 44 (([pB false]++[pS cI ([]:List Int)])++([pB false]++[pS cI ([]:List Int)])):=mkZ (z:=.agg #[.bool false,.slice none 0 0,.bool false,.slice none 0 0]) (k:=4) (by kernel_rfl) rfl (fun M=>b0.app (b0.app (show b0 M [pB false] [.bool false] from zU1) (show b0 M [pS cI ([]:List Int)] [.slice none 0 0] from⟨dX cI M,trivial⟩)) (b0.app (show b0 M [pB false] [.bool false] from zU1) (show b0 M [pS cI ([]:List Int)] [.slice none 0 0] from⟨dX cI M,trivial⟩)))
def kK (a0:aZ):Option Bool:=
 bif a0.neg then(some false) else(bif((a0.d.length:Int) != 1) then(some false) else((dC a0.d 0).bind fun v4=>some (v4==1)))
theorem rQ {a0:aZ} {r:Bool} (hF:kK a0=some r):Ct Tryz.prog 169 [.va (aZ.e a0)] (.vc (pB r)):=by
 unfold kK at hF
 refine bD Tryz.func169 rfl (by kernel_rfl) Tryz.ntmps169 rfl (fun w0 M0=>?_)
 refine aE (aF (cY rfl rfl trivial (fun b1=>?_)))
 refine aB (aN (.inr rfl)) ⟨cW _,trivial⟩ ?_
 refine aC (aA (aE (aE (aF (aB (bE (off:=0) (k:=0) rfl tyF42_0) zU1 ?_)))))
 refine aB (bK 0 1 rfl rfl rfl rfl (.one tyO4)) zU1 ?_
 refine aI ?_
 refine cP (fun h2=>?_) (fun h2=>?_)
 ·have hF:=aV h2 hF
  refine aM ?_
  refine aM ?_
  refine aM ?_
  refine aM ?_
  refine aB (bM rfl) ⟨rfl,cW _,trivial⟩ ?_
  refine aC (aA (iO rfl ?_))
  refine aE (aF (aB (aN (.inr rfl)) ⟨cW _,trivial⟩ ?_))
  refine aC (aA (a9 (a8 ?_)))
  obtain rfl:=bV hF
  exact aL (.inl rfl) Tryz.results169 (.tmp rfl .nil) rfl rfl
 have hF:=aX h2 hF
 refine aY (bE (off:=0) (k:=1) rfl tyF42_1) zU1 ?_
 refine aY (bK 0 1 rfl rfl rfl rfl (.one tyO22)) zU1 ?_
 refine aY (bX rfl tyS22) zU1 ?_
 refine aY (s7 rfl) ⟨rfl,bI _ _,trivial⟩ ?_
 refine aB (bN rfl) zU2 ?_
 refine aC (aA (bS rfl (fun h3=>?_) (fun h3=>?_)))
 ·have hF:=aV h3 hF
  refine aE (aF (aB (aN (.inr rfl)) ⟨cW _,trivial⟩ ?_))
  refine aC (aA (a9 (a8 ?_)))
  obtain rfl:=bV hF
  exact aL (.inl rfl) Tryz.results169 (.tmp rfl .nil) rfl rfl
 have hF:=aX h3 hF
 refine bA (aA (aE (aF (aB (bE (off:=0) (k:=1) rfl tyF42_1) zU1 ?_))))
 refine aB (bK 0 1 rfl rfl rfl rfl (.one tyO22)) zU1 ?_
 obtain⟨v4,h5,hF⟩:=aP hF
 refine aB (cO rfl tyS22 h5) ⟨rfl,bI _ _,trivial⟩ ?_
 refine aB (cK 1 rfl rfl (.one tyO3)) zU1 ?_
 refine aB (gR rfl) ⟨rfl,bI _ _,trivial⟩ ?_
 refine bH ?_
 refine aC (aA (a9 (a8 ?_)))
 obtain rfl:=bV hF
 exact aL (.inl rfl) Tryz.results169 (.tmp rfl .nil) rfl rfl
def iF (K:Nat) (a0:aZ) (a1:aZ):Option cB:=
 bif((a1.d.length:Int)==0) then(some (⟨(⟨false,([]:List Int)⟩:aZ),(⟨false,([]:List Int)⟩:aZ)⟩:cB)) else(bif((a0.d.length:Int)==0) then(some (⟨(⟨false,([]:List Int)⟩:aZ),(⟨false,([]:List Int)⟩:aZ)⟩:cB)) else((nM K a0 a1).bind fun v6=>(kH K a0 v6).bind fun v9=>(kH K a1 v6).bind fun v13=>bif v13.1.neg then((lC K v9.1).bind fun v18=>(lC K v13.1).bind fun v20=>(kK v20).bind fun v22=>bif v22 then(some (⟨v18,(⟨false,([]:List Int)⟩:aZ)⟩:cB)) else(some (⟨v18,v20⟩:cB))) else((kK v13.1).bind fun v25=>bif v25 then(some (⟨v9.1,(⟨false,([]:List Int)⟩:aZ)⟩:cB)) else(some (⟨v9.1,v13.1⟩:cB)))))
theorem tB {K:Nat} {a0:aZ} {a1:aZ} {r:cB} (hF:iF K a0 a1=some r):Ct Tryz.prog 93 [.va (aZ.e a0),.va (aZ.e a1)] (.va (cB.e r)):=by
 unfold iF at hF
 refine bD Tryz.func93 rfl (by kernel_rfl) Tryz.ntmps93 rfl (fun w0 M0=>?_)
 refine aE (aF (cY rfl rfl trivial (fun b1=>?_)))
 refine cY rfl rfl trivial (fun b2=>?_)
 refine bP rfl tyZ44 (fun b3=>?_)
 refine aC (aA (aE (aE (aF (aB (bE (off:=0) (k:=1) rfl tyF42_1) zU1 ?_)))))
 refine aB (bK 1 1 rfl rfl rfl rfl (.one tyO22)) zU1 ?_
 refine aB (bX rfl tyS22) zU1 ?_
 refine aB (gR rfl) ⟨rfl,bI _ _,trivial⟩ ?_
 refine aI ?_
 refine cP (fun h4=>?_) (fun h4=>?_)
 ·have hF:=aV h4 hF
  refine aM ?_
  refine aM ?_
  refine aM ?_
  refine aM ?_
  refine aB (bM rfl) ⟨rfl,cW _,trivial⟩ ?_
  refine aC (aA (iO rfl ?_))
  refine aE (aF (aB (cZ (is:=[]) (xs:=[]) (ps:=[]) rfl tyB44 rfl rfl trivial rfl) trivial ?_))
  refine bG (dO 0 rfl rfl rfl tyA44.s) zU2 ?_
  refine aC (aA (a9 (a8 ?_)))
  obtain rfl:=bV hF
  exact aL (.inl rfl) Tryz.results93 (bQ 0 4 rfl rfl rfl rfl (.agg tyA44) .nil) rfl rfl
 have hF:=aX h4 hF
 refine aY (bE (off:=0) (k:=1) rfl tyF42_1) zU1 ?_
 refine aY (bK 2 1 rfl rfl rfl rfl (.one tyO22)) zU1 ?_
 refine aY (bX rfl tyS22) zU1 ?_
 refine aY (gR rfl) ⟨rfl,bI _ _,trivial⟩ ?_
 refine aB (bN rfl) zU2 ?_
 refine aC (aA (bS rfl (fun h5=>?_) (fun h5=>?_)))
 ·have hF:=aV h5 hF
  refine aE (aF (aB (cZ (is:=[]) (xs:=[]) (ps:=[]) rfl tyB44 rfl rfl trivial rfl) trivial ?_))
  refine bG (dO 0 rfl rfl rfl tyA44.s) zU2 ?_
  refine aC (aA (a9 (a8 ?_)))
  obtain rfl:=bV hF
  exact aL (.inl rfl) Tryz.results93 (bQ 0 4 rfl rfl rfl rfl (.agg tyA44) .nil) rfl rfl
 have hF:=aX h5 hF
 refine bA (aA (aE (aF (aB (bK 2 2 rfl rfl rfl rfl (.agg tyA42)) zU1 ?_))))
 refine aB (bK 1 2 rfl rfl rfl rfl (.agg tyA42)) zU1 ?_
 obtain⟨v6,h7,hF⟩:=aP hF
 refine aB (aJ rfl (wF h7) rfl) zU2 ?_
 refine bP rfl tyZ42 (fun b8=>?_)
 refine bG (dO 0 rfl rfl rfl tyA42.s) zU2 ?_
 refine aC (aA (aE (aF (aB (bK 3 2 rfl rfl rfl rfl (.agg tyA42)) zU1 ?_))))
 refine aB (bK 0 2 rfl rfl rfl rfl (.agg tyA42)) zU1 ?_
 obtain⟨v9,h10,hF⟩:=aP hF
 refine aB (aJ rfl (rT h10) rfl) zU2 ?_
 refine aI ?_
 refine aB (lT rfl) zU1 ?_
 refine aB (lO rfl) zU1 ?_
 refine bP rfl tyZ42 (fun b11=>?_)
 refine bP rfl tyZ42 (fun b12=>?_)
 refine bG (dO 1 rfl rfl rfl tyA42.s) zU2 ?_
 refine bG (dO 0 rfl rfl rfl tyA42.s) zU2 ?_
 refine aC (aA (aE (aF (aB (bK 4 2 rfl rfl rfl rfl (.agg tyA42)) zU1 ?_))))
 refine aB (bK 2 2 rfl rfl rfl rfl (.agg tyA42)) zU1 ?_
 obtain⟨v13,h14,hF⟩:=aP hF
 refine aB (aJ rfl (rT h14) rfl) zU2 ?_
 refine aI ?_
 refine aB (lT rfl) zU1 ?_
 refine aB (lO rfl) zU1 ?_
 refine bP rfl tyZ42 (fun b15=>?_)
 refine bP rfl tyZ42 (fun b16=>?_)
 refine bG (dO 1 rfl rfl rfl tyA42.s) zU2 ?_
 refine bG (dO 0 rfl rfl rfl tyA42.s) zU2 ?_
 refine aC (aA (aE (aE (aF (aB (bE (off:=0) (k:=0) rfl tyF42_0) zU1 ?_)))))
 refine aB (bK 1 1 rfl rfl rfl rfl (.one tyO4)) zU1 ?_
 refine aC (aA (bS rfl (fun h17=>?_) (fun h17=>?_)))
 ·have hF:=aV h17 hF
  refine aE (aF (aB (bK 3 2 rfl rfl rfl rfl (.agg tyA42)) zU1 ?_))
  obtain⟨v18,h19,hF⟩:=aP hF
  refine aB (aJ rfl (t0 h19) rfl) zU1 ?_
  refine bG (dO 3 rfl rfl rfl tyA42.s) zU2 ?_
  refine aC (aA (aF (aB (bK 1 2 rfl rfl rfl rfl (.agg tyA42)) zU1 ?_)))
  obtain⟨v20,h21,hF⟩:=aP hF
  refine aB (aJ rfl (t0 h21) rfl) zU1 ?_
  refine bG (dO 1 rfl rfl rfl tyA42.s) zU2 ?_
  refine aC (aA (aE (aE (aF (aB (bK 1 2 rfl rfl rfl rfl (.agg tyA42)) zU1 ?_)))))
  obtain⟨v22,h23,hF⟩:=aP hF
  refine aB (aJ rfl (rQ h23) rfl) zU1 ?_
  refine aC (aA (bS rfl (fun h24=>?_) (fun h24=>?_)))
  ·have hF:=aV h24 hF
   refine aE (aF (aB (bK 3 2 rfl rfl rfl rfl (.agg tyA42)) zU1 ?_))
   refine aB (cZ (is:=[0]) (xs:=[.tmp 44]) (ps:=[.va (aZ.e v18)]) rfl tyB44 rfl rfl ⟨trivial,trivial⟩ rfl) zU1 ?_
   refine bG (dO 5 rfl rfl rfl tyA44.s) zU2 ?_
   refine aC (aA (a9 (a8 ?_)))
   obtain rfl:=bV hF
   exact aL (.inl rfl) Tryz.results93 (bQ 5 4 rfl rfl rfl rfl (.agg tyA44) .nil) rfl rfl
  have hF:=aX h24 hF
  refine bA (aA (aE (aF (aB (bK 3 2 rfl rfl rfl rfl (.agg tyA42)) zU1 ?_))))
  refine aB (bK 1 2 rfl rfl rfl rfl (.agg tyA42)) zU1 ?_
  refine aB (cZ (is:=[0,1]) (xs:=[.tmp 46,.tmp 47]) (ps:=[.va (aZ.e v18),.va (aZ.e v20)]) rfl tyB44 rfl rfl ⟨trivial,trivial,trivial⟩ rfl) zU2 ?_
  refine bG (dO 5 rfl rfl rfl tyA44.s) zU2 ?_
  refine aC (aA (a9 (a8 ?_)))
  obtain rfl:=bV hF
  exact aL (.inl rfl) Tryz.results93 (bQ 5 4 rfl rfl rfl rfl (.agg tyA44) .nil) rfl rfl
 have hF:=aX h17 hF
 refine bA (aA (aE (aE (aF (aB (bK 1 2 rfl rfl rfl rfl (.agg tyA42)) zU1 ?_)))))
 obtain⟨v25,h26,hF⟩:=aP hF
 refine aB (aJ rfl (rQ h26) rfl) zU1 ?_
 refine aC (aA (bS rfl (fun h27=>?_) (fun h27=>?_)))
 ·have hF:=aV h27 hF
  refine aE (aF (aB (bK 3 2 rfl rfl rfl rfl (.agg tyA42)) zU1 ?_))
  refine aB (cZ (is:=[0]) (xs:=[.tmp 44]) (ps:=[.va (aZ.e v9.1)]) rfl tyB44 rfl rfl ⟨trivial,trivial⟩ rfl) zU1 ?_
  refine bG (dO 5 rfl rfl rfl tyA44.s) zU2 ?_
  refine aC (aA (a9 (a8 ?_)))
  obtain rfl:=bV hF
  exact aL (.inl rfl) Tryz.results93 (bQ 5 4 rfl rfl rfl rfl (.agg tyA44) .nil) rfl rfl
 have hF:=aX h27 hF
 refine bA (aA (aE (aF (aB (bK 3 2 rfl rfl rfl rfl (.agg tyA42)) zU1 ?_))))
 refine aB (bK 1 2 rfl rfl rfl rfl (.agg tyA42)) zU1 ?_
 refine aB (cZ (is:=[0,1]) (xs:=[.tmp 46,.tmp 47]) (ps:=[.va (aZ.e v9.1),.va (aZ.e v13.1)]) rfl tyB44 rfl rfl ⟨trivial,trivial,trivial⟩ rfl) zU2 ?_
 refine bG (dO 5 rfl rfl rfl tyA44.s) zU2 ?_
 refine aC (aA (a9 (a8 ?_)))
 obtain rfl:=bV hF
 exact aL (.inl rfl) Tryz.results93 (bQ 5 4 rfl rfl rfl rfl (.agg tyA44) .nil) rfl rfl
abbrev aBH:Nat:=30
def s0 (K:Nat) (a0:Int) (a1:Int):Option cB:=
 (gU K a0).bind fun v2=>(gU K a1).bind fun v4=>(iF K v2 v4).bind fun v6=>some v6
theorem aBa {K:Nat} {a0:Int} {a1:Int} {r:cB} (hF:s0 K a0 a1=some r):Ct Tryz.prog 30 [.vc (pI .i64 a0),.vc (pI .i64 a1)] (.va (cB.e r)):=by
 unfold s0 at hF
 refine bD Tryz.func30 rfl (by kernel_rfl) Tryz.ntmps30 rfl (fun w0 M0=>?_)
 refine aE (aF (bP rfl tyZ44 (fun b1=>?_)))
 refine aC (aA (aE (aF (aI ?_))))
 obtain⟨v2,h3,hF⟩:=aP hF
 refine aB (aJ rfl (lD h3) rfl) zU1 ?_
 refine aI ?_
 obtain⟨v4,h5,hF⟩:=aP hF
 refine aB (aJ rfl (lD h5) rfl) zU1 ?_
 obtain⟨v6,h7,hF⟩:=aP hF
 refine aB (aJ rfl (tB h7) rfl) zU2 ?_
 refine bG (dO 0 rfl rfl rfl tyA44.s) zU2 ?_
 refine aC (aA (a9 (a8 ?_)))
 obtain rfl:=bV hF
 exact aL (.inl rfl) Tryz.results30 (bQ 0 4 rfl rfl rfl rfl (.agg tyA44) .nil) rfl rfl
def rR (a0:aZ):Option Bool:=
 bif(!a0.neg) then(bif((a0.d.length:Int)==1) then((dC a0.d 0).bind fun v4=>some (v4==1)) else(some false)) else(some false)
theorem vH {a0:aZ} {r:Bool} (hF:rR a0=some r):Ct Tryz.prog 165 [.va (aZ.e a0)] (.vc (pB r)):=by
 unfold rR at hF
 refine bD Tryz.func165 rfl (by kernel_rfl) Tryz.ntmps165 rfl (fun w0 M0=>?_)
 refine aE (aF (cY rfl rfl trivial (fun b1=>?_)))
 refine aB (aN (.inr rfl)) ⟨cW _,trivial⟩ ?_
 refine aC (aA (aE (aF (aB (bE (off:=0) (k:=0) rfl tyF42_0) zU1 ?_))))
 refine aB (bK 0 1 rfl rfl rfl rfl (.one tyO4)) zU1 ?_
 refine aB (hU rfl) zU1 ?_
 refine aI ?_
 refine cP (fun h2=>?_) (fun h2=>?_)
 ·have hF:=aV h2 hF
  refine aY (bE (off:=0) (k:=1) rfl tyF42_1) zU1 ?_
  refine aY (bK 0 1 rfl rfl rfl rfl (.one tyO22)) zU1 ?_
  refine aY (bX rfl tyS22) zU1 ?_
  refine aY (gR rfl) ⟨rfl,bI _ _,trivial⟩ ?_
  refine aB (bM rfl) zU2 ?_
  refine aI ?_
  refine cP (fun h3=>?_) (fun h3=>?_)
  ·have hF:=aV h3 hF
   refine aY (bE (off:=0) (k:=1) rfl tyF42_1) zU1 ?_
   refine aY (bK 0 1 rfl rfl rfl rfl (.one tyO22)) zU1 ?_
   obtain⟨v4,h5,hF⟩:=aP hF
   refine aY (cO rfl tyS22 h5) ⟨rfl,bI _ _,trivial⟩ ?_
   refine aY (cK 1 rfl rfl (.one tyO3)) zU1 ?_
   refine aY (gR rfl) ⟨rfl,bI _ _,trivial⟩ ?_
   refine aB (bM rfl) zU2 ?_
   refine bH ?_
   refine aC (aA (a9 (a8 ?_)))
   obtain rfl:=bV hF
   exact aL (.inl rfl) Tryz.results165 (.tmp rfl .nil) rfl rfl
  have hF:=aX h3 hF
  refine aM ?_
  refine aM ?_
  refine aM ?_
  refine aM ?_
  refine aM ?_
  refine aB (bN rfl) ⟨rfl,cW _,trivial⟩ ?_
  refine bH ?_
  refine aC (aA (a9 (a8 ?_)))
  obtain rfl:=bV hF
  exact aL (.inl rfl) Tryz.results165 (.tmp rfl .nil) rfl rfl
 have hF:=aX h2 hF
 refine aM ?_
 refine aM ?_
 refine aM ?_
 refine aM ?_
 refine aB (bN rfl) ⟨rfl,cW _,trivial⟩ ?_
 refine aI ?_
 refine aM ?_
 refine aM ?_
 refine aM ?_
 refine aM ?_
 refine aM ?_
 refine aB (bN rfl) ⟨rfl,cW _,trivial⟩ ?_
 refine bH ?_
 refine aC (aA (a9 (a8 ?_)))
 obtain rfl:=bV hF
 exact aL (.inl rfl) Tryz.results165 (.tmp rfl .nil) rfl rfl
def m5 (a0:aZ) (a1:aZ):Option cB:=
 bif a1.neg then((qK a0).bind fun v7=>(qK a1).bind fun v9=>(rR v9).bind fun v11=>bif v11 then(some (⟨v7,(⟨false,([]:List Int)⟩:aZ)⟩:cB)) else(some (⟨v7,v9⟩:cB))) else((rR a1).bind fun v14=>bif v14 then(some (⟨a0,(⟨false,([]:List Int)⟩:aZ)⟩:cB)) else(some (⟨a0,a1⟩:cB)))
theorem tJ {a0:aZ} {a1:aZ} {r:cB} (hF:m5 a0 a1=some r):Ct Tryz.prog 98 [.va (aZ.e a0),.va (aZ.e a1)] (.va (cB.e r)):=by
 unfold m5 at hF
 refine bD Tryz.func98 rfl (by kernel_rfl) Tryz.ntmps98 rfl (fun w0 M0=>?_)
 refine aE (aF (cY rfl rfl trivial (fun b1=>?_)))
 refine cY rfl rfl trivial (fun b2=>?_)
 refine bP rfl tyZ44 (fun b3=>?_)
 refine aC (aA (aE (aE (aF (aB (bE (off:=0) (k:=0) rfl tyF42_0) zU1 ?_)))))
 refine aB (bK 1 1 rfl rfl rfl rfl (.one tyO4)) zU1 ?_
 refine aC (aA (bS rfl (fun h4=>?_) (fun h4=>?_)))
 ·have hF:=aV h4 hF
  obtain⟨v7,h8,hF⟩:=aP hF
  obtain⟨v9,h10,hF⟩:=aP hF
  refine bT [0,1,0,7,15,31] 4 2 [.v (.va (aZ.e a0)),.v (.va (aZ.e v7)),.v (.va (aZ.e a1)),.v (.va (aZ.e v9))] aU ⟨d0 (bK 2 2 rfl rfl rfl rfl (.agg tyA42)) zU1,d0 (aJ rfl (wH h8) rfl) zU1,d0 (bK 1 2 rfl rfl rfl rfl (.agg tyA42)) zU1,d0 (aJ rfl (wH h10) rfl) zU1,trivial⟩ (fun bs6 G5=>?_)
  refine bG (dO 2 rfl rfl rfl tyA42.s) zU2 ?_
  refine bG (dO 1 rfl rfl rfl tyA42.s) zU2 ?_
  refine aC (aA (aE (aE (aF (aB (bK 1 2 rfl rfl rfl rfl (.agg tyA42)) zU1 ?_)))))
  obtain⟨v11,h12,hF⟩:=aP hF
  refine aB (aJ rfl (vH h12) rfl) zU1 ?_
  refine aC (aA (bS rfl (fun h13=>?_) (fun h13=>?_)))
  ·have hF:=aV h13 hF
   refine aE (aF (aB (bK 2 2 rfl rfl rfl rfl (.agg tyA42)) zU1 ?_))
   refine aB (cZ (is:=[0]) (xs:=[.tmp 13]) (ps:=[.va (aZ.e v7)]) rfl tyB44 rfl rfl ⟨trivial,trivial⟩ rfl) zU1 ?_
   refine bG (dO 0 rfl rfl rfl tyA44.s) zU2 ?_
   refine aC (aA (a9 (a8 ?_)))
   obtain rfl:=bV hF
   exact aL (.inl rfl) Tryz.results98 (bQ 0 4 rfl rfl rfl rfl (.agg tyA44) .nil) rfl rfl
  have hF:=aX h13 hF
  refine bA (aA (aE (aF (aB (bK 2 2 rfl rfl rfl rfl (.agg tyA42)) zU1 ?_))))
  refine aB (bK 1 2 rfl rfl rfl rfl (.agg tyA42)) zU1 ?_
  refine aB (cZ (is:=[0,1]) (xs:=[.tmp 15,.tmp 16]) (ps:=[.va (aZ.e v7),.va (aZ.e v9)]) rfl tyB44 rfl rfl ⟨trivial,trivial,trivial⟩ rfl) zU2 ?_
  refine bG (dO 0 rfl rfl rfl tyA44.s) zU2 ?_
  refine aC (aA (a9 (a8 ?_)))
  obtain rfl:=bV hF
  exact aL (.inl rfl) Tryz.results98 (bQ 0 4 rfl rfl rfl rfl (.agg tyA44) .nil) rfl rfl
 have hF:=aX h4 hF
 refine bA (aA (aE (aE (aF (aB (bK 1 2 rfl rfl rfl rfl (.agg tyA42)) zU1 ?_)))))
 obtain⟨v14,h15,hF⟩:=aP hF
 refine aB (aJ rfl (vH h15) rfl) zU1 ?_
 refine aC (aA (bS rfl (fun h16=>?_) (fun h16=>?_)))
 ·have hF:=aV h16 hF
  refine aE (aF (aB (bK 2 2 rfl rfl rfl rfl (.agg tyA42)) zU1 ?_))
  refine aB (cZ (is:=[0]) (xs:=[.tmp 13]) (ps:=[.va (aZ.e a0)]) rfl tyB44 rfl rfl ⟨trivial,trivial⟩ rfl) zU1 ?_
  refine bG (dO 0 rfl rfl rfl tyA44.s) zU2 ?_
  refine aC (aA (a9 (a8 ?_)))
  obtain rfl:=bV hF
  exact aL (.inl rfl) Tryz.results98 (bQ 0 4 rfl rfl rfl rfl (.agg tyA44) .nil) rfl rfl
 have hF:=aX h16 hF
 refine bA (aA (aE (aF (aB (bK 2 2 rfl rfl rfl rfl (.agg tyA42)) zU1 ?_))))
 refine aB (bK 1 2 rfl rfl rfl rfl (.agg tyA42)) zU1 ?_
 refine aB (cZ (is:=[0,1]) (xs:=[.tmp 15,.tmp 16]) (ps:=[.va (aZ.e a0),.va (aZ.e a1)]) rfl tyB44 rfl rfl ⟨trivial,trivial,trivial⟩ rfl) zU2 ?_
 refine bG (dO 0 rfl rfl rfl tyA44.s) zU2 ?_
 refine aC (aA (a9 (a8 ?_)))
 obtain rfl:=bV hF
 exact aL (.inl rfl) Tryz.results98 (bQ 0 4 rfl rfl rfl rfl (.agg tyA44) .nil) rfl rfl
def jP (K:Nat) (a0:aZ) (a1:aZ):Option cB:=
 bif((a1.d.length:Int)==0) then(some (⟨(⟨false,([]:List Int)⟩:aZ),(⟨false,([]:List Int)⟩:aZ)⟩:cB)) else(bif((a0.d.length:Int)==0) then(some (⟨(⟨false,([]:List Int)⟩:aZ),(⟨false,([]:List Int)⟩:aZ)⟩:cB)) else((rX K a0 a1).bind fun v6=>(rR v6).bind fun v9=>bif(!v9) then((rY K a0 v6).bind fun v12=>(rY K a1 v6).bind fun v14=>(m5 v12.1 v14.1).bind fun v16=>some v16) else((m5 a0 a1).bind fun v18=>some v18)))
theorem sQ {K:Nat} {a0:aZ} {a1:aZ} {r:cB} (hF:jP K a0 a1=some r):Ct Tryz.prog 96 [.va (aZ.e a0),.va (aZ.e a1)] (.va (cB.e r)):=by
 unfold jP at hF
 refine bD Tryz.func96 rfl (by kernel_rfl) Tryz.ntmps96 rfl (fun w0 M0=>?_)
 refine aE (aF (cY rfl rfl trivial (fun b1=>?_)))
 refine cY rfl rfl trivial (fun b2=>?_)
 refine bP rfl tyZ44 (fun b3=>?_)
 refine aC (aA (aE (aE (aF (aB (bE (off:=0) (k:=1) rfl tyF42_1) zU1 ?_)))))
 refine aB (bK 1 1 rfl rfl rfl rfl (.one tyO22)) zU1 ?_
 refine aB (bX rfl tyS22) zU1 ?_
 refine aB (gR rfl) ⟨rfl,bI _ _,trivial⟩ ?_
 refine aI ?_
 refine cP (fun h4=>?_) (fun h4=>?_)
 ·have hF:=aV h4 hF
  refine aM ?_
  refine aM ?_
  refine aM ?_
  refine aM ?_
  refine aB (bM rfl) ⟨rfl,cW _,trivial⟩ ?_
  refine aC (aA (iO rfl ?_))
  refine aE (aF (aB (cZ (is:=[]) (xs:=[]) (ps:=[]) rfl tyB44 rfl rfl trivial rfl) trivial ?_))
  refine bG (dO 0 rfl rfl rfl tyA44.s) zU2 ?_
  refine aC (aA (a9 (a8 ?_)))
  obtain rfl:=bV hF
  exact aL (.inl rfl) Tryz.results96 (bQ 0 4 rfl rfl rfl rfl (.agg tyA44) .nil) rfl rfl
 have hF:=aX h4 hF
 refine aY (bE (off:=0) (k:=1) rfl tyF42_1) zU1 ?_
 refine aY (bK 2 1 rfl rfl rfl rfl (.one tyO22)) zU1 ?_
 refine aY (bX rfl tyS22) zU1 ?_
 refine aY (gR rfl) ⟨rfl,bI _ _,trivial⟩ ?_
 refine aB (bN rfl) zU2 ?_
 refine aC (aA (bS rfl (fun h5=>?_) (fun h5=>?_)))
 ·have hF:=aV h5 hF
  refine aE (aF (aB (cZ (is:=[]) (xs:=[]) (ps:=[]) rfl tyB44 rfl rfl trivial rfl) trivial ?_))
  refine bG (dO 0 rfl rfl rfl tyA44.s) zU2 ?_
  refine aC (aA (a9 (a8 ?_)))
  obtain rfl:=bV hF
  exact aL (.inl rfl) Tryz.results96 (bQ 0 4 rfl rfl rfl rfl (.agg tyA44) .nil) rfl rfl
 have hF:=aX h5 hF
 refine bA (aA (aE (aE (aF (aB (bK 2 2 rfl rfl rfl rfl (.agg tyA42)) zU1 ?_)))))
 refine aB (bK 1 2 rfl rfl rfl rfl (.agg tyA42)) zU1 ?_
 obtain⟨v6,h7,hF⟩:=aP hF
 refine aB (aJ rfl (zS h7) rfl) zU2 ?_
 refine bP rfl tyZ42 (fun b8=>?_)
 refine bG (dO 0 rfl rfl rfl tyA42.s) zU2 ?_
 refine aC (aA (aE (aF (aB (bK 0 2 rfl rfl rfl rfl (.agg tyA42)) zU1 ?_))))
 obtain⟨v9,h10,hF⟩:=aP hF
 refine aB (aJ rfl (vH h10) rfl) zU1 ?_
 refine aB (hU rfl) zU1 ?_
 refine aC (aA (bS rfl (fun h11=>?_) (fun h11=>?_)))
 ·have hF:=aV h11 hF
  refine aE (aF (aB (bK 3 2 rfl rfl rfl rfl (.agg tyA42)) zU1 ?_))
  refine aB (bK 0 2 rfl rfl rfl rfl (.agg tyA42)) zU1 ?_
  obtain⟨v12,h13,hF⟩:=aP hF
  refine aB (aJ rfl (z7 h13) rfl) zU2 ?_
  refine aI ?_
  refine aB (lT rfl) zU1 ?_
  refine aB (lO rfl) zU1 ?_
  refine bG (dO 3 rfl rfl rfl tyA42.s) zU2 ?_
  refine aC (aA (aF (aB (bK 2 2 rfl rfl rfl rfl (.agg tyA42)) zU1 ?_)))
  refine aB (bK 0 2 rfl rfl rfl rfl (.agg tyA42)) zU1 ?_
  obtain⟨v14,h15,hF⟩:=aP hF
  refine aB (aJ rfl (z7 h15) rfl) zU2 ?_
  refine aI ?_
  refine aB (lT rfl) zU1 ?_
  refine aB (lO rfl) zU1 ?_
  refine bG (dO 2 rfl rfl rfl tyA42.s) zU2 ?_
  refine aC (aA (aE (aF (aB (bK 3 2 rfl rfl rfl rfl (.agg tyA42)) zU1 ?_))))
  refine aB (bK 2 2 rfl rfl rfl rfl (.agg tyA42)) zU1 ?_
  obtain⟨v16,h17,hF⟩:=aP hF
  refine aB (aJ rfl (tJ h17) rfl) zU2 ?_
  refine bG (dO 1 rfl rfl rfl tyA44.s) zU2 ?_
  refine aC (aA (a9 (a8 ?_)))
  obtain rfl:=bV hF
  exact aL (.inl rfl) Tryz.results96 (bQ 1 4 rfl rfl rfl rfl (.agg tyA44) .nil) rfl rfl
 have hF:=aX h11 hF
 refine bA (aA (aE (aF (aB (bK 3 2 rfl rfl rfl rfl (.agg tyA42)) zU1 ?_))))
 refine aB (bK 2 2 rfl rfl rfl rfl (.agg tyA42)) zU1 ?_
 obtain⟨v18,h19,hF⟩:=aP hF
 refine aB (aJ rfl (tJ h19) rfl) zU2 ?_
 refine bG (dO 1 rfl rfl rfl tyA44.s) zU2 ?_
 refine aC (aA (a9 (a8 ?_)))
 obtain rfl:=bV hF
 exact aL (.inl rfl) Tryz.results96 (bQ 1 4 rfl rfl rfl rfl (.agg tyA44) .nil) rfl rfl
def aAh:Option aZ:=
 (lV 1).bind fun v2=>some v2
theorem aGd {r:aZ} (hF:aAh=some r):Ct Tryz.prog 185 [] (.va (aZ.e r)):=by
 unfold aAh at hF
 refine bD Tryz.func185 rfl (by kernel_rfl) Tryz.ntmps185 rfl (fun w0 M0=>?_)
 refine aE (aF (bP rfl tyZ42 (fun b1=>?_)))
 refine aC (aA (aE (aF ?_)))
 obtain⟨v2,h3,hF⟩:=aP hF
 refine aB (aJ rfl (qN h3) rfl) ⟨bI _ _,trivial⟩ ?_
 refine bG (dO 0 rfl rfl rfl tyA42.s) zU2 ?_
 refine aC (aA (a9 (a8 ?_)))
 obtain rfl:=bV hF
 exact aL (.inl rfl) Tryz.results185 (bQ 0 2 rfl rfl rfl rfl (.agg tyA42) .nil) rfl rfl
def fD (a0:cB):Option aZ:=
 bif((a0.q.d.length:Int)==0) then((aAh).bind fun v4=>some v4) else(some a0.q)
theorem kV {a0:cB} {r:aZ} (hF:fD a0=some r):Ct Tryz.prog 97 [.va (cB.e a0)] (.va (aZ.e r)):=by
 unfold fD at hF
 refine bD Tryz.func97 rfl (by kernel_rfl) Tryz.ntmps97 rfl (fun w0 M0=>?_)
 refine aE (aF (cY rfl rfl trivial (fun b1=>?_)))
 refine bP rfl tyZ42 (fun b2=>?_)
 refine aC (aA (aE (aE (aF (aB (bE (off:=0) (k:=2) rfl tyF44_1) zU1 ?_)))))
 refine aB (bE (off:=2) (k:=1) rfl tyF42_1) zU1 ?_
 refine aB (bK 1 1 rfl rfl rfl rfl (.one tyO22)) zU1 ?_
 refine aB (bX rfl tyS22) zU1 ?_
 refine aB (gR rfl) ⟨rfl,bI _ _,trivial⟩ ?_
 refine aC (aA (bS rfl (fun h3=>?_) (fun h3=>?_)))
 ·have hF:=aV h3 hF
  refine aE (aF ?_)
  obtain⟨v4,h5,hF⟩:=aP hF
  refine aB (aJ rfl (aGd h5) rfl) trivial ?_
  refine bG (dO 0 rfl rfl rfl tyA42.s) zU2 ?_
  refine aC (aA (a9 (a8 ?_)))
  obtain rfl:=bV hF
  exact aL (.inl rfl) Tryz.results97 (bQ 0 2 rfl rfl rfl rfl (.agg tyA42) .nil) rfl rfl
 have hF:=aX h3 hF
 refine bA (aA (aE (aF (aB (bE (off:=0) (k:=2) rfl tyF44_1) zU1 ?_))))
 refine aB (bK 1 2 rfl rfl rfl rfl (.agg tyA42)) zU1 ?_
 refine bG (dO 0 rfl rfl rfl tyA42.s) zU2 ?_
 refine aC (aA (a9 (a8 ?_)))
 obtain rfl:=bV hF
 exact aL (.inl rfl) Tryz.results97 (bQ 0 2 rfl rfl rfl rfl (.agg tyA42) .nil) rfl rfl
abbrev aHw:Nat:=31
def xK (K:Nat) (a0:cB) (a1:cB):Option cB:=
 bif((a0.p.d.length:Int)==0) then(some (⟨(⟨false,([]:List Int)⟩:aZ),(⟨false,([]:List Int)⟩:aZ)⟩:cB)) else(bif((a1.p.d.length:Int)==0) then(some (⟨(⟨false,([]:List Int)⟩:aZ),(⟨false,([]:List Int)⟩:aZ)⟩:cB)) else(bif((a0.q.d.length:Int)==0) then(bif((a1.q.d.length:Int)==0) then((dH K a0.p a1.p).bind fun v8=>some (⟨v8,(⟨false,([]:List Int)⟩:aZ)⟩:cB)) else((fD a1).bind fun v12=>(jP K a0.p v12).bind fun v14=>(fD a0).bind fun v16=>(jP K a1.p v16).bind fun v18=>(dH K v14.p v18.p).bind fun v22=>(fD v14).bind fun v24=>(fD v18).bind fun v26=>(dH K v24 v26).bind fun v28=>(m5 v22 v28).bind fun v30=>some v30)) else((fD a1).bind fun v34=>(jP K a0.p v34).bind fun v36=>(fD a0).bind fun v38=>(jP K a1.p v38).bind fun v40=>(dH K v36.p v40.p).bind fun v44=>(fD v36).bind fun v46=>(fD v40).bind fun v48=>(dH K v46 v48).bind fun v50=>(m5 v44 v50).bind fun v52=>some v52)))
theorem aCA {K:Nat} {a0:cB} {a1:cB} {r:cB} (hF:xK K a0 a1=some r):Ct Tryz.prog 31 [.va (cB.e a0),.va (cB.e a1)] (.va (cB.e r)):=by
 unfold xK at hF
 refine bD Tryz.func31 rfl (by kernel_rfl) Tryz.ntmps31 rfl (fun w0 M0=>?_)
 refine aE (aF (cY rfl rfl trivial (fun b1=>?_)))
 refine cY rfl rfl trivial (fun b2=>?_)
 refine bP rfl tyZ44 (fun b3=>?_)
 refine aC (aA (aE (aE (aF (aB (bE (off:=0) (k:=0) rfl tyF44_0) zU1 ?_)))))
 refine aB (bE (off:=0) (k:=1) rfl tyF42_1) zU1 ?_
 refine aB (bK 2 1 rfl rfl rfl rfl (.one tyO22)) zU1 ?_
 refine aB (bX rfl tyS22) zU1 ?_
 refine aB (gR rfl) ⟨rfl,bI _ _,trivial⟩ ?_
 refine aI ?_
 refine cP (fun h4=>?_) (fun h4=>?_)
 ·have hF:=aV h4 hF
  refine aM ?_
  refine aM ?_
  refine aM ?_
  refine aM ?_
  refine aM ?_
  refine aB (bM rfl) ⟨rfl,cW _,trivial⟩ ?_
  refine aC (aA (iO rfl ?_))
  refine aE (aF (aB (cZ (is:=[]) (xs:=[]) (ps:=[]) rfl tyB44 rfl rfl trivial rfl) trivial ?_))
  refine bG (dO 0 rfl rfl rfl tyA44.s) zU2 ?_
  refine aC (aA (a9 (a8 ?_)))
  obtain rfl:=bV hF
  exact aL (.inl rfl) Tryz.results31 (bQ 0 4 rfl rfl rfl rfl (.agg tyA44) .nil) rfl rfl
 have hF:=aX h4 hF
 refine aY (bE (off:=0) (k:=0) rfl tyF44_0) zU1 ?_
 refine aY (bE (off:=0) (k:=1) rfl tyF42_1) zU1 ?_
 refine aY (bK 1 1 rfl rfl rfl rfl (.one tyO22)) zU1 ?_
 refine aY (bX rfl tyS22) zU1 ?_
 refine aY (gR rfl) ⟨rfl,bI _ _,trivial⟩ ?_
 refine aB (bN rfl) zU2 ?_
 refine aC (aA (bS rfl (fun h5=>?_) (fun h5=>?_)))
 ·have hF:=aV h5 hF
  refine aE (aF (aB (cZ (is:=[]) (xs:=[]) (ps:=[]) rfl tyB44 rfl rfl trivial rfl) trivial ?_))
  refine bG (dO 0 rfl rfl rfl tyA44.s) zU2 ?_
  refine aC (aA (a9 (a8 ?_)))
  obtain rfl:=bV hF
  exact aL (.inl rfl) Tryz.results31 (bQ 0 4 rfl rfl rfl rfl (.agg tyA44) .nil) rfl rfl
 have hF:=aX h5 hF
 refine bA (aA (aE (aE (aF (aB (bE (off:=0) (k:=2) rfl tyF44_1) zU1 ?_)))))
 refine aB (bE (off:=2) (k:=1) rfl tyF42_1) zU1 ?_
 refine aB (bK 2 1 rfl rfl rfl rfl (.one tyO22)) zU1 ?_
 refine aB (bX rfl tyS22) zU1 ?_
 refine aB (gR rfl) ⟨rfl,bI _ _,trivial⟩ ?_
 refine aI ?_
 refine cP (fun h6=>?_) (fun h6=>?_)
 ·have hF:=aV h6 hF
  refine aY (bE (off:=0) (k:=2) rfl tyF44_1) zU1 ?_
  refine aY (bE (off:=2) (k:=1) rfl tyF42_1) zU1 ?_
  refine aY (bK 1 1 rfl rfl rfl rfl (.one tyO22)) zU1 ?_
  refine aY (bX rfl tyS22) zU1 ?_
  refine aY (gR rfl) ⟨rfl,bI _ _,trivial⟩ ?_
  refine aB (bM rfl) zU2 ?_
  refine aC (aA (bS rfl (fun h7=>?_) (fun h7=>?_)))
  ·have hF:=aV h7 hF
   refine aE (aF (aB (bE (off:=0) (k:=0) rfl tyF44_0) zU1 ?_))
   refine aB (bK 2 2 rfl rfl rfl rfl (.agg tyA42)) zU1 ?_
   refine aB (bE (off:=0) (k:=0) rfl tyF44_0) zU1 ?_
   refine aB (bK 1 2 rfl rfl rfl rfl (.agg tyA42)) zU1 ?_
   obtain⟨v8,h9,hF⟩:=aP hF
   refine aB (aJ rfl (gS h9) rfl) zU2 ?_
   refine aB (cZ (is:=[0]) (xs:=[.tmp 36]) (ps:=[.va (aZ.e v8)]) rfl tyB44 rfl rfl ⟨trivial,trivial⟩ rfl) zU1 ?_
   refine bG (dO 0 rfl rfl rfl tyA44.s) zU2 ?_
   refine aC (aA (a9 (a8 ?_)))
   obtain rfl:=bV hF
   exact aL (.inl rfl) Tryz.results31 (bQ 0 4 rfl rfl rfl rfl (.agg tyA44) .nil) rfl rfl
  have hF:=aX h7 hF
  refine bA (aA (aE ?_))
  obtain⟨v12,h13,hF⟩:=aP hF
  obtain⟨v14,h15,hF⟩:=aP hF
  obtain⟨v16,h17,hF⟩:=aP hF
  obtain⟨v18,h19,hF⟩:=aP hF
  refine bT [0,1,0,4,15,0,32,0,159,511,0,0,4095,8191] 12 2 [.v (.vc (pP (some b1) 0)),.v (.va (aZ.e a0.p)),.v (.va (cB.e a1)),.v (.va (aZ.e v12)),.v (.va (cB.e v14)),.v (.vc (pP (some b2) 0)),.v (.va (aZ.e a1.p)),.v (.va (cB.e a0)),.v (.va (aZ.e v16)),.v (.va (cB.e v18)),.a 44 (([pB false]++[pS cI ([]:List Int)])++([pB false]++[pS cI ([]:List Int)])),.a 44 (([pB false]++[pS cI ([]:List Int)])++([pB false]++[pS cI ([]:List Int)]))] aU ⟨d0 (bE (off:=0) (k:=0) rfl tyF44_0) zU1,d0 (bK 2 2 rfl rfl rfl rfl (.agg tyA42)) zU1,d0 (bK 1 4 rfl rfl rfl rfl (.agg tyA44)) zU1,d0 (aJ rfl (kV h13) rfl) zU1,d0 (aJ rfl (sQ h15) rfl) zU2,d0 (bE (off:=0) (k:=0) rfl tyF44_0) zU1,d0 (bK 1 2 rfl rfl rfl rfl (.agg tyA42)) zU1,d0 (bK 2 4 rfl rfl rfl rfl (.agg tyA44)) zU1,d0 (aJ rfl (kV h17) rfl) zU1,d0 (aJ rfl (sQ h19) rfl) zU2,⟨rfl,.alc tyZ44⟩,⟨rfl,.alc tyZ44⟩,trivial⟩ (fun bs11 G10=>?_)
  refine bG (dO 0 rfl rfl rfl tyA44.s) zU2 ?_
  refine bG (dO 1 rfl rfl rfl tyA44.s) zU2 ?_
  refine aC (aA (aE ?_))
  obtain⟨v22,h23,hF⟩:=aP hF
  obtain⟨v24,h25,hF⟩:=aP hF
  obtain⟨v26,h27,hF⟩:=aP hF
  obtain⟨v28,h29,hF⟩:=aP hF
  obtain⟨v30,h31,hF⟩:=aP hF
  refine bT [0,1,0,4,15,0,63,0,255,511,1023,2047] 11 1 [.v (.vc (pP (some (bs11 10)) 0)),.v (.va (aZ.e v14.p)),.v (.vc (pP (some (bs11 11)) 0)),.v (.va (aZ.e v18.p)),.v (.va (aZ.e v22)),.v (.va (cB.e v14)),.v (.va (aZ.e v24)),.v (.va (cB.e v18)),.v (.va (aZ.e v26)),.v (.va (aZ.e v28)),.v (.va (cB.e v30))] aU ⟨d0 (bE (off:=0) (k:=0) rfl tyF44_0) zU1,d0 (bK 0 2 rfl rfl rfl rfl (.agg tyA42)) zU1,d0 (bE (off:=0) (k:=0) rfl tyF44_0) zU1,d0 (bK 1 2 rfl rfl rfl rfl (.agg tyA42)) zU1,d0 (aJ rfl (gS h23) rfl) zU2,d0 (bK 0 4 rfl rfl rfl rfl (.agg tyA44)) zU1,d0 (aJ rfl (kV h25) rfl) zU1,d0 (bK 1 4 rfl rfl rfl rfl (.agg tyA44)) zU1,d0 (aJ rfl (kV h27) rfl) zU1,d0 (aJ rfl (gS h29) rfl) zU2,d0 (aJ rfl (tJ h31) rfl) zU2,trivial⟩ (fun bs21 G20=>?_)
  refine bG (dO 2 rfl rfl rfl tyA44.s) zU2 ?_
  refine aC (aA (a9 (a8 ?_)))
  obtain rfl:=bV hF
  exact aL (.inl rfl) Tryz.results31 (bQ 2 4 rfl rfl rfl rfl (.agg tyA44) .nil) rfl rfl
 have hF:=aX h6 hF
 refine aM ?_
 refine aM ?_
 refine aM ?_
 refine aM ?_
 refine aM ?_
 refine aB (bN rfl) ⟨rfl,cW _,trivial⟩ ?_
 refine aC (aA (sT rfl ?_))
 refine bA (aA (aE ?_))
 obtain⟨v34,h35,hF⟩:=aP hF
 obtain⟨v36,h37,hF⟩:=aP hF
 obtain⟨v38,h39,hF⟩:=aP hF
 obtain⟨v40,h41,hF⟩:=aP hF
 refine bT [0,1,0,4,15,0,32,0,159,511,0,0,4095,8191] 12 2 [.v (.vc (pP (some b1) 0)),.v (.va (aZ.e a0.p)),.v (.va (cB.e a1)),.v (.va (aZ.e v34)),.v (.va (cB.e v36)),.v (.vc (pP (some b2) 0)),.v (.va (aZ.e a1.p)),.v (.va (cB.e a0)),.v (.va (aZ.e v38)),.v (.va (cB.e v40)),.a 44 (([pB false]++[pS cI ([]:List Int)])++([pB false]++[pS cI ([]:List Int)])),.a 44 (([pB false]++[pS cI ([]:List Int)])++([pB false]++[pS cI ([]:List Int)]))] aU ⟨d0 (bE (off:=0) (k:=0) rfl tyF44_0) zU1,d0 (bK 2 2 rfl rfl rfl rfl (.agg tyA42)) zU1,d0 (bK 1 4 rfl rfl rfl rfl (.agg tyA44)) zU1,d0 (aJ rfl (kV h35) rfl) zU1,d0 (aJ rfl (sQ h37) rfl) zU2,d0 (bE (off:=0) (k:=0) rfl tyF44_0) zU1,d0 (bK 1 2 rfl rfl rfl rfl (.agg tyA42)) zU1,d0 (bK 2 4 rfl rfl rfl rfl (.agg tyA44)) zU1,d0 (aJ rfl (kV h39) rfl) zU1,d0 (aJ rfl (sQ h41) rfl) zU2,⟨rfl,.alc tyZ44⟩,⟨rfl,.alc tyZ44⟩,trivial⟩ (fun bs33 G32=>?_)
 refine bG (dO 0 rfl rfl rfl tyA44.s) zU2 ?_
 refine bG (dO 1 rfl rfl rfl tyA44.s) zU2 ?_
 refine aC (aA (aE ?_))
 obtain⟨v44,h45,hF⟩:=aP hF
 obtain⟨v46,h47,hF⟩:=aP hF
 obtain⟨v48,h49,hF⟩:=aP hF
 obtain⟨v50,h51,hF⟩:=aP hF
 obtain⟨v52,h53,hF⟩:=aP hF
 refine bT [0,1,0,4,15,0,63,0,255,511,1023,2047] 11 1 [.v (.vc (pP (some (bs33 10)) 0)),.v (.va (aZ.e v36.p)),.v (.vc (pP (some (bs33 11)) 0)),.v (.va (aZ.e v40.p)),.v (.va (aZ.e v44)),.v (.va (cB.e v36)),.v (.va (aZ.e v46)),.v (.va (cB.e v40)),.v (.va (aZ.e v48)),.v (.va (aZ.e v50)),.v (.va (cB.e v52))] aU ⟨d0 (bE (off:=0) (k:=0) rfl tyF44_0) zU1,d0 (bK 0 2 rfl rfl rfl rfl (.agg tyA42)) zU1,d0 (bE (off:=0) (k:=0) rfl tyF44_0) zU1,d0 (bK 1 2 rfl rfl rfl rfl (.agg tyA42)) zU1,d0 (aJ rfl (gS h45) rfl) zU2,d0 (bK 0 4 rfl rfl rfl rfl (.agg tyA44)) zU1,d0 (aJ rfl (kV h47) rfl) zU1,d0 (bK 1 4 rfl rfl rfl rfl (.agg tyA44)) zU1,d0 (aJ rfl (kV h49) rfl) zU1,d0 (aJ rfl (gS h51) rfl) zU2,d0 (aJ rfl (tJ h53) rfl) zU2,trivial⟩ (fun bs43 G42=>?_)
 refine bG (dO 2 rfl rfl rfl tyA44.s) zU2 ?_
 refine aC (aA (a9 (a8 ?_)))
 obtain rfl:=bV hF
 exact aL (.inl rfl) Tryz.results31 (bQ 2 4 rfl rfl rfl rfl (.agg tyA44) .nil) rfl rfl
def r9 (K:Nat):Option Bool:=
 some true
def gJ (K:Nat) (a0:List Int) (a1:List Int):Nat→Int→Option (LR Bool Unit)
 |0,_=>none
 |k+1,x3=>bif(decide (x3<(a0.length:Int))) then((dC a0 x3).bind fun v9=>(dC a1 x3).bind fun v11=>bif(v9 != v11) then(some (.ret false)) else((bW (x3+1)).bind fun v14=>gJ K a0 a1 k v14)) else(some (.go ()))
def oN (K:Nat) (a0:List Int) (a1:List Int):Option Bool:=
 bif((a0.length:Int) != (a1.length:Int)) then(some false) else((gJ K a0 a1 K 0).bind fun o=>match o with| .ret r=>some r| .go _=>r9 K)
theorem aAn {K:Nat} {a0:List Int} {a1:List Int} {r:Bool} (hF:oN K a0 a1=some r):Ct Tryz.prog 100 [.vc (pS cI a0),.vc (pS cI a1)] (.vc (pB r)):=by
 unfold oN at hF
 refine bD Tryz.func100 rfl (by kernel_rfl) Tryz.ntmps100 rfl (fun w0 M0=>?_)
 refine aE (aF (aB (aN (.inr rfl)) ⟨cW _,trivial⟩ ?_))
 refine aC (aA (aE (aE (aF (aI ?_)))))
 refine aB (bX rfl tyS22) zU1 ?_
 refine aI ?_
 refine aB (bX rfl tyS22) zU1 ?_
 refine aB (s7 rfl) zU2 ?_
 refine aC (aA (bS rfl (fun h1=>?_) (fun h1=>?_)))
 ·have hF:=aV h1 hF
  refine aE (aF (aB (aN (.inr rfl)) ⟨cW _,trivial⟩ ?_))
  refine aC (aA (a9 (a8 ?_)))
  obtain rfl:=bV hF
  exact aL (.inl rfl) Tryz.results100 (.tmp rfl .nil) rfl rfl
 have hF:=aX h1 hF
 refine bA (aA (aE (aE (aF (aI ?_)))))
 refine aB (bX rfl tyS22) zU1 ?_
 refine aB (aN (.inl rfl)) ⟨bI _ _,trivial⟩ ?_
 refine aC (aA (bR (cJ (fun H E=>r9 K=some r∧H=[]∧E=[]) ?_ (fun Jj5=>?_))))
 ·rintro _ _ ⟨hF,rfl,rfl⟩
  unfold r9 at hF
  refine aA (aE (aF (aB (aN (.inr rfl)) ⟨cW _,trivial⟩ ?_)))
  refine aC (aA (a9 (a8 ?_)))
  obtain rfl:=bV hF
  exact aL (.inl rfl) Tryz.results100 (.tmp rfl .nil) rfl rfl
 obtain⟨ol4,hL,hRl4⟩:=aP hF
 refine gB (fun k a w=>∃(x3:Int),gJ K a0 a1 k x3=some ol4∧hs _ [] [(0,.vc (pS cI a0)),(1,.vc (pS cI a1)),(12,.vc (pI .i64 (a0.length:Int))),(13,.vc (pI .i64 x3))] a w) K (fun a w ⟨_,hF,_⟩=>by cases hF) (fun k a w ⟨x3,hF,hh⟩=>gE ?_ hh) (fun a w hh=>⟨0,hL,bF [] rfl (by decide) (by exact⟨rfl,rfl,rfl,rfl,trivial⟩) hh⟩)
 rw [gJ.eq_2] at hF
 refine aE (aF (aB (dQ rfl) zU2 ?_))
 refine aC (aA (aE (bS rfl (fun h6=>?_) (fun h6=>?_))))
 ·have hF:=aV h6 hF
  refine bA (aA (aE (bR (aE (aF (aI ?_))))))
  refine bH ?_
  refine aC (aA (aE ?_))
  obtain⟨v9,h10,hF⟩:=aP hF
  obtain⟨v11,h12,hF⟩:=aP hF
  refine bT [0,0,3,7,0,0,48,112,255] 9 0 [.v (.vc (pS cI a0)),.v (.vc (pI .i64 x3)),.v (.vc (pM (cI.e v9))),.v (.vc (pI .i64 v9)),.v (.vc (pS cI a1)),.v (.vc (pI .i64 x3)),.v (.vc (pM (cI.e v11))),.v (.vc (pI .i64 v11)),.v (.vc (pB (v9 != v11)))] aU ⟨d0 (aN (.inl rfl)) zU1,d0 (aN (.inl rfl)) zU1,d0 (cO rfl tyS22 h10) zU2,d0 (cK 1 rfl rfl (.one tyO3)) zU1,d0 (aN (.inl rfl)) zU1,d0 (aN (.inl rfl)) zU1,d0 (cO rfl tyS22 h12) zU2,d0 (cK 1 rfl rfl (.one tyO3)) zU1,d0 (s7 rfl) zU2,trivial⟩ (fun bs8 G7=>?_)
  refine aC (aA (bS rfl (fun h13=>?_) (fun h13=>?_)))
  ·have hF:=aV h13 hF
   refine aE (aF (aB (aN (.inr rfl)) ⟨cW _,trivial⟩ ?_))
   refine aC (aA (a9 (a8 ?_)))
   obtain rfl:=bV hF
   obtain rfl:=bV hRl4
   exact aL (.inl rfl) Tryz.results100 (.tmp rfl .nil) rfl rfl
  have hF:=aX h13 hF
  refine bA (bJ (aA (aF ?_)))
  obtain⟨v14,h15,hF⟩:=aP hF
  refine aB (bO rfl h15) ⟨rfl,bI _ _,trivial⟩ ?_
  refine aI ?_
  refine aC ?_
  exact bL (fun a w hh=>⟨v14,hF,bF [] rfl (by decide) (by exact⟨rfl,rfl,rfl,rfl,trivial⟩) hh⟩)
 have hF:=aX h6 hF
 refine dI ?_
 obtain rfl:=bV hF
 exact bU Jj5 ⟨hRl4,rfl,rfl⟩ [] rfl trivial
def s8 (K:Nat) (a0:aZ) (a1:aZ):Option Bool:=
 bif(a0.neg==a1.neg) then((oN K a0.d a1.d).bind fun v4=>some v4) else(some false)
theorem aAD {K:Nat} {a0:aZ} {a1:aZ} {r:Bool} (hF:s8 K a0 a1=some r):Ct Tryz.prog 99 [.va (aZ.e a0),.va (aZ.e a1)] (.vc (pB r)):=by
 unfold s8 at hF
 refine bD Tryz.func99 rfl (by kernel_rfl) Tryz.ntmps99 rfl (fun w0 M0=>?_)
 refine aE (aF (cY rfl rfl trivial (fun b1=>?_)))
 refine cY rfl rfl trivial (fun b2=>?_)
 refine aB (aN (.inr rfl)) ⟨cW _,trivial⟩ ?_
 refine aC (aA (aE (aF (aB (bE (off:=0) (k:=0) rfl tyF42_0) zU1 ?_))))
 refine aB (bK 1 1 rfl rfl rfl rfl (.one tyO4)) zU1 ?_
 refine aB (bE (off:=0) (k:=0) rfl tyF42_0) zU1 ?_
 refine aB (bK 0 1 rfl rfl rfl rfl (.one tyO4)) zU1 ?_
 refine aB (aIs rfl Tryz.underlying4) zU2 ?_
 refine aI ?_
 refine cP (fun h3=>?_) (fun h3=>?_)
 ·have hF:=aV h3 hF
  refine aY (bE (off:=0) (k:=1) rfl tyF42_1) zU1 ?_
  refine aY (bK 1 1 rfl rfl rfl rfl (.one tyO22)) zU1 ?_
  refine aY (bE (off:=0) (k:=1) rfl tyF42_1) zU1 ?_
  refine aY (bK 0 1 rfl rfl rfl rfl (.one tyO22)) zU1 ?_
  obtain⟨v4,h5,hF⟩:=aP hF
  refine aY (aJ rfl (aAn h5) rfl) zU2 ?_
  refine aB (bM rfl) zU2 ?_
  refine bH ?_
  refine aC (aA (a9 (a8 ?_)))
  obtain rfl:=bV hF
  exact aL (.inl rfl) Tryz.results99 (.tmp rfl .nil) rfl rfl
 have hF:=aX h3 hF
 refine aM ?_
 refine aM ?_
 refine aM ?_
 refine aM ?_
 refine aM ?_
 refine aB (bN rfl) ⟨rfl,cW _,trivial⟩ ?_
 refine bH ?_
 refine aC (aA (a9 (a8 ?_)))
 obtain rfl:=bV hF
 exact aL (.inl rfl) Tryz.results99 (.tmp rfl .nil) rfl rfl
abbrev aGi:Nat:=32
def yX (K:Nat) (a0:cB) (a1:cB):Option Bool:=
 (s8 K a0.p a1.p).bind fun v3=>bif v3 then((s8 K a0.q a1.q).bind fun v6=>some v6) else(some false)
theorem aFy {K:Nat} {a0:cB} {a1:cB} {r:Bool} (hF:yX K a0 a1=some r):Ct Tryz.prog 32 [.va (cB.e a0),.va (cB.e a1)] (.vc (pB r)):=by
 unfold yX at hF
 refine bD Tryz.func32 rfl (by kernel_rfl) Tryz.ntmps32 rfl (fun w0 M0=>?_)
 refine aE (aF (cY rfl rfl trivial (fun b1=>?_)))
 refine cY rfl rfl trivial (fun b2=>?_)
 refine aB (aN (.inr rfl)) ⟨cW _,trivial⟩ ?_
 refine aC (aA (aE (aF (aB (aN (.inr rfl)) ⟨k_F _,trivial⟩ ?_))))
 refine aC (aA (aE (aF (aI ?_))))
 refine aB (bE (off:=0) (k:=0) rfl tyF44_0) zU1 ?_
 refine aB (bK 1 2 rfl rfl rfl rfl (.agg tyA42)) zU1 ?_
 refine aB (bE (off:=0) (k:=0) rfl tyF44_0) zU1 ?_
 refine aB (bK 0 2 rfl rfl rfl rfl (.agg tyA42)) zU1 ?_
 obtain⟨v3,h4,hF⟩:=aP hF
 refine aB (aEx (cs:=[]) (pre:=[.va (aZ.e a0.p),.va (aZ.e a1.p)]) rfl (aAD h4) rfl) ⟨rfl,rfl,rfl,trivial⟩ ?_
 refine aI ?_
 refine cP (fun h5=>?_) (fun h5=>?_)
 ·have hF:=aV h5 hF
  refine aY (aN (.inl rfl)) zU1 ?_
  refine aY (bE (off:=0) (k:=2) rfl tyF44_1) zU1 ?_
  refine aY (bK 1 2 rfl rfl rfl rfl (.agg tyA42)) zU1 ?_
  refine aY (bE (off:=0) (k:=2) rfl tyF44_1) zU1 ?_
  refine aY (bK 0 2 rfl rfl rfl rfl (.agg tyA42)) zU1 ?_
  obtain⟨v6,h7,hF⟩:=aP hF
  refine aY (aEx (cs:=[]) (pre:=[.va (aZ.e a0.q),.va (aZ.e a1.q)]) rfl (aAD h7) rfl) ⟨rfl,rfl,rfl,trivial⟩ ?_
  refine aB (bM rfl) zU2 ?_
  refine bH ?_
  refine aC (aA (a9 (a8 ?_)))
  obtain rfl:=bV hF
  exact aL (.inl rfl) Tryz.results32 (.tmp rfl .nil) rfl rfl
 have hF:=aX h5 hF
 refine aM ?_
 refine aM ?_
 refine aM ?_
 refine aM ?_
 refine aM ?_
 refine aM ?_
 refine aB (bN rfl) ⟨rfl,cW _,trivial⟩ ?_
 refine bH ?_
 refine aC (aA (a9 (a8 ?_)))
 obtain rfl:=bV hF
 exact aL (.inl rfl) Tryz.results32 (.tmp rfl .nil) rfl rfl
abbrev aHr:Nat:=34
def xL (K:Nat) (a0:cB) (a1:cB):Option cB:=
 bif((a0.q.d.length:Int)==0) then(bif((a1.q.d.length:Int)==0) then((mW K a0.p a1.p).bind fun v6=>some (⟨v6,(⟨false,([]:List Int)⟩:aZ)⟩:cB)) else(bif((a0.p.d.length:Int)==0) then(some a1) else(bif((a1.p.d.length:Int)==0) then(some a0) else((fD a0).bind fun v12=>(fD a1).bind fun v14=>(dH K a0.p v14).bind fun v18=>(dH K a1.p v12).bind fun v20=>(mW K v18 v20).bind fun v22=>(dH K v12 v14).bind fun v24=>(jP K v22 v24).bind fun v26=>some v26)))) else(bif((a0.p.d.length:Int)==0) then(some a1) else(bif((a1.p.d.length:Int)==0) then(some a0) else((fD a0).bind fun v32=>(fD a1).bind fun v34=>(dH K a0.p v34).bind fun v38=>(dH K a1.p v32).bind fun v40=>(mW K v38 v40).bind fun v42=>(dH K v32 v34).bind fun v44=>(jP K v42 v44).bind fun v46=>some v46)))
theorem aCD {K:Nat} {a0:cB} {a1:cB} {r:cB} (hF:xL K a0 a1=some r):Ct Tryz.prog 34 [.va (cB.e a0),.va (cB.e a1)] (.va (cB.e r)):=by
 unfold xL at hF
 refine bD Tryz.func34 rfl (by kernel_rfl) Tryz.ntmps34 rfl (fun w0 M0=>?_)
 refine aE (aF (cY rfl rfl trivial (fun b1=>?_)))
 refine cY rfl rfl trivial (fun b2=>?_)
 refine bP rfl tyZ44 (fun b3=>?_)
 refine aC (aA (aE (bR (aE (aF (aB (bE (off:=0) (k:=2) rfl tyF44_1) zU1 ?_))))))
 refine aB (bE (off:=2) (k:=1) rfl tyF42_1) zU1 ?_
 refine aB (bK 2 1 rfl rfl rfl rfl (.one tyO22)) zU1 ?_
 refine aB (bX rfl tyS22) zU1 ?_
 refine aB (gR rfl) ⟨rfl,bI _ _,trivial⟩ ?_
 refine aI ?_
 refine cP (fun h4=>?_) (fun h4=>?_)
 ·have hF:=aV h4 hF
  refine aY (bE (off:=0) (k:=2) rfl tyF44_1) zU1 ?_
  refine aY (bE (off:=2) (k:=1) rfl tyF42_1) zU1 ?_
  refine aY (bK 1 1 rfl rfl rfl rfl (.one tyO22)) zU1 ?_
  refine aY (bX rfl tyS22) zU1 ?_
  refine aY (gR rfl) ⟨rfl,bI _ _,trivial⟩ ?_
  refine aB (bM rfl) zU2 ?_
  refine bH ?_
  refine aC (aA (bS rfl (fun h5=>?_) (fun h5=>?_)))
  ·have hF:=aV h5 hF
   refine aE (aF (aB (bE (off:=0) (k:=0) rfl tyF44_0) zU1 ?_))
   refine aB (bK 2 2 rfl rfl rfl rfl (.agg tyA42)) zU1 ?_
   refine aB (bE (off:=0) (k:=0) rfl tyF44_0) zU1 ?_
   refine aB (bK 1 2 rfl rfl rfl rfl (.agg tyA42)) zU1 ?_
   obtain⟨v6,h7,hF⟩:=aP hF
   refine aB (aJ rfl (wR h7) rfl) zU2 ?_
   refine aB (cZ (is:=[0]) (xs:=[.tmp 24]) (ps:=[.va (aZ.e v6)]) rfl tyB44 rfl rfl ⟨trivial,trivial⟩ rfl) zU1 ?_
   refine bG (dO 0 rfl rfl rfl tyA44.s) zU2 ?_
   refine aC (aA (a9 (a8 ?_)))
   obtain rfl:=bV hF
   exact aL (.inl rfl) Tryz.results34 (bQ 0 4 rfl rfl rfl rfl (.agg tyA44) .nil) rfl rfl
  have hF:=aX h5 hF
  refine aE (aF (aB (bE (off:=0) (k:=0) rfl tyF44_0) zU1 ?_))
  refine aB (bE (off:=0) (k:=1) rfl tyF42_1) zU1 ?_
  refine aB (bK 2 1 rfl rfl rfl rfl (.one tyO22)) zU1 ?_
  refine aB (bX rfl tyS22) zU1 ?_
  refine aB (gR rfl) ⟨rfl,bI _ _,trivial⟩ ?_
  refine bH ?_
  refine aC (aA (bS rfl (fun h8=>?_) (fun h8=>?_)))
  ·have hF:=aV h8 hF
   refine aE (aF (aB (bK 1 4 rfl rfl rfl rfl (.agg tyA44)) zU1 ?_))
   refine bG (dO 0 rfl rfl rfl tyA44.s) zU2 ?_
   refine aC (aA (a9 (a8 ?_)))
   obtain rfl:=bV hF
   exact aL (.inl rfl) Tryz.results34 (bQ 0 4 rfl rfl rfl rfl (.agg tyA44) .nil) rfl rfl
  have hF:=aX h8 hF
  refine aE (aF (aB (bE (off:=0) (k:=0) rfl tyF44_0) zU1 ?_))
  refine aB (bE (off:=0) (k:=1) rfl tyF42_1) zU1 ?_
  refine aB (bK 1 1 rfl rfl rfl rfl (.one tyO22)) zU1 ?_
  refine aB (bX rfl tyS22) zU1 ?_
  refine aB (gR rfl) ⟨rfl,bI _ _,trivial⟩ ?_
  refine bH ?_
  refine aC (aA (bS rfl (fun h9=>?_) (fun h9=>?_)))
  ·have hF:=aV h9 hF
   refine aE (aF (aB (bK 2 4 rfl rfl rfl rfl (.agg tyA44)) zU1 ?_))
   refine bG (dO 0 rfl rfl rfl tyA44.s) zU2 ?_
   refine aC (aA (a9 (a8 ?_)))
   obtain rfl:=bV hF
   exact aL (.inl rfl) Tryz.results34 (bQ 0 4 rfl rfl rfl rfl (.agg tyA44) .nil) rfl rfl
  have hF:=aX h9 hF
  refine bA (bJ (aA (aE ?_)))
  obtain⟨v12,h13,hF⟩:=aP hF
  obtain⟨v14,h15,hF⟩:=aP hF
  refine bT [0,1,0,7,0,0,63,127] 6 2 [.v (.va (cB.e a0)),.v (.va (aZ.e v12)),.v (.va (cB.e a1)),.v (.va (aZ.e v14)),.a 42 ([pB false]++[pS cI ([]:List Int)]),.a 42 ([pB false]++[pS cI ([]:List Int)])] aU ⟨d0 (bK 2 4 rfl rfl rfl rfl (.agg tyA44)) zU1,d0 (aJ rfl (kV h13) rfl) zU1,d0 (bK 1 4 rfl rfl rfl rfl (.agg tyA44)) zU1,d0 (aJ rfl (kV h15) rfl) zU1,⟨rfl,.alc tyZ42⟩,⟨rfl,.alc tyZ42⟩,trivial⟩ (fun bs11 G10=>?_)
  refine bG (dO 0 rfl rfl rfl tyA42.s) zU2 ?_
  refine bG (dO 1 rfl rfl rfl tyA42.s) zU2 ?_
  refine aC (aA (aE ?_))
  obtain⟨v18,h19,hF⟩:=aP hF
  obtain⟨v20,h21,hF⟩:=aP hF
  obtain⟨v22,h23,hF⟩:=aP hF
  obtain⟨v24,h25,hF⟩:=aP hF
  obtain⟨v26,h27,hF⟩:=aP hF
  refine bT [0,1,0,7,0,16,0,127,255,0,0,2047,4095,8191] 13 1 [.v (.vc (pP (some b1) 0)),.v (.va (aZ.e a0.p)),.v (.va (aZ.e v14)),.v (.va (aZ.e v18)),.v (.vc (pP (some b2) 0)),.v (.va (aZ.e a1.p)),.v (.va (aZ.e v12)),.v (.va (aZ.e v20)),.v (.va (aZ.e v22)),.v (.va (aZ.e v12)),.v (.va (aZ.e v14)),.v (.va (aZ.e v24)),.v (.va (cB.e v26))] aU ⟨d0 (bE (off:=0) (k:=0) rfl tyF44_0) zU1,d0 (bK 4 2 rfl rfl rfl rfl (.agg tyA42)) zU1,d0 (bK 1 2 rfl rfl rfl rfl (.agg tyA42)) zU1,d0 (aJ rfl (gS h19) rfl) zU2,d0 (bE (off:=0) (k:=0) rfl tyF44_0) zU1,d0 (bK 3 2 rfl rfl rfl rfl (.agg tyA42)) zU1,d0 (bK 0 2 rfl rfl rfl rfl (.agg tyA42)) zU1,d0 (aJ rfl (gS h21) rfl) zU2,d0 (aJ rfl (wR h23) rfl) zU2,d0 (bK 0 2 rfl rfl rfl rfl (.agg tyA42)) zU1,d0 (bK 1 2 rfl rfl rfl rfl (.agg tyA42)) zU1,d0 (aJ rfl (gS h25) rfl) zU2,d0 (aJ rfl (sQ h27) rfl) zU2,trivial⟩ (fun bs17 G16=>?_)
  refine bG (dO 2 rfl rfl rfl tyA44.s) zU2 ?_
  refine aC (aA (a9 (a8 ?_)))
  obtain rfl:=bV hF
  exact aL (.inl rfl) Tryz.results34 (bQ 2 4 rfl rfl rfl rfl (.agg tyA44) .nil) rfl rfl
 have hF:=aX h4 hF
 refine aM ?_
 refine aM ?_
 refine aM ?_
 refine aM ?_
 refine aM ?_
 refine aB (bN rfl) ⟨rfl,cW _,trivial⟩ ?_
 refine bH ?_
 refine aC (aA (sT rfl ?_))
 refine aE (aF (aB (bE (off:=0) (k:=0) rfl tyF44_0) zU1 ?_))
 refine aB (bE (off:=0) (k:=1) rfl tyF42_1) zU1 ?_
 refine aB (bK 2 1 rfl rfl rfl rfl (.one tyO22)) zU1 ?_
 refine aB (bX rfl tyS22) zU1 ?_
 refine aB (gR rfl) ⟨rfl,bI _ _,trivial⟩ ?_
 refine bH ?_
 refine aC (aA (bS rfl (fun h28=>?_) (fun h28=>?_)))
 ·have hF:=aV h28 hF
  refine aE (aF (aB (bK 1 4 rfl rfl rfl rfl (.agg tyA44)) zU1 ?_))
  refine bG (dO 0 rfl rfl rfl tyA44.s) zU2 ?_
  refine aC (aA (a9 (a8 ?_)))
  obtain rfl:=bV hF
  exact aL (.inl rfl) Tryz.results34 (bQ 0 4 rfl rfl rfl rfl (.agg tyA44) .nil) rfl rfl
 have hF:=aX h28 hF
 refine aE (aF (aB (bE (off:=0) (k:=0) rfl tyF44_0) zU1 ?_))
 refine aB (bE (off:=0) (k:=1) rfl tyF42_1) zU1 ?_
 refine aB (bK 1 1 rfl rfl rfl rfl (.one tyO22)) zU1 ?_
 refine aB (bX rfl tyS22) zU1 ?_
 refine aB (gR rfl) ⟨rfl,bI _ _,trivial⟩ ?_
 refine bH ?_
 refine aC (aA (bS rfl (fun h29=>?_) (fun h29=>?_)))
 ·have hF:=aV h29 hF
  refine aE (aF (aB (bK 2 4 rfl rfl rfl rfl (.agg tyA44)) zU1 ?_))
  refine bG (dO 0 rfl rfl rfl tyA44.s) zU2 ?_
  refine aC (aA (a9 (a8 ?_)))
  obtain rfl:=bV hF
  exact aL (.inl rfl) Tryz.results34 (bQ 0 4 rfl rfl rfl rfl (.agg tyA44) .nil) rfl rfl
 have hF:=aX h29 hF
 refine bA (bJ (aA (aE ?_)))
 obtain⟨v32,h33,hF⟩:=aP hF
 obtain⟨v34,h35,hF⟩:=aP hF
 refine bT [0,1,0,7,0,0,63,127] 6 2 [.v (.va (cB.e a0)),.v (.va (aZ.e v32)),.v (.va (cB.e a1)),.v (.va (aZ.e v34)),.a 42 ([pB false]++[pS cI ([]:List Int)]),.a 42 ([pB false]++[pS cI ([]:List Int)])] aU ⟨d0 (bK 2 4 rfl rfl rfl rfl (.agg tyA44)) zU1,d0 (aJ rfl (kV h33) rfl) zU1,d0 (bK 1 4 rfl rfl rfl rfl (.agg tyA44)) zU1,d0 (aJ rfl (kV h35) rfl) zU1,⟨rfl,.alc tyZ42⟩,⟨rfl,.alc tyZ42⟩,trivial⟩ (fun bs31 G30=>?_)
 refine bG (dO 0 rfl rfl rfl tyA42.s) zU2 ?_
 refine bG (dO 1 rfl rfl rfl tyA42.s) zU2 ?_
 refine aC (aA (aE ?_))
 obtain⟨v38,h39,hF⟩:=aP hF
 obtain⟨v40,h41,hF⟩:=aP hF
 obtain⟨v42,h43,hF⟩:=aP hF
 obtain⟨v44,h45,hF⟩:=aP hF
 obtain⟨v46,h47,hF⟩:=aP hF
 refine bT [0,1,0,7,0,16,0,127,255,0,0,2047,4095,8191] 13 1 [.v (.vc (pP (some b1) 0)),.v (.va (aZ.e a0.p)),.v (.va (aZ.e v34)),.v (.va (aZ.e v38)),.v (.vc (pP (some b2) 0)),.v (.va (aZ.e a1.p)),.v (.va (aZ.e v32)),.v (.va (aZ.e v40)),.v (.va (aZ.e v42)),.v (.va (aZ.e v32)),.v (.va (aZ.e v34)),.v (.va (aZ.e v44)),.v (.va (cB.e v46))] aU ⟨d0 (bE (off:=0) (k:=0) rfl tyF44_0) zU1,d0 (bK 4 2 rfl rfl rfl rfl (.agg tyA42)) zU1,d0 (bK 1 2 rfl rfl rfl rfl (.agg tyA42)) zU1,d0 (aJ rfl (gS h39) rfl) zU2,d0 (bE (off:=0) (k:=0) rfl tyF44_0) zU1,d0 (bK 3 2 rfl rfl rfl rfl (.agg tyA42)) zU1,d0 (bK 0 2 rfl rfl rfl rfl (.agg tyA42)) zU1,d0 (aJ rfl (gS h41) rfl) zU2,d0 (aJ rfl (wR h43) rfl) zU2,d0 (bK 0 2 rfl rfl rfl rfl (.agg tyA42)) zU1,d0 (bK 1 2 rfl rfl rfl rfl (.agg tyA42)) zU1,d0 (aJ rfl (gS h45) rfl) zU2,d0 (aJ rfl (sQ h47) rfl) zU2,trivial⟩ (fun bs37 G36=>?_)
 refine bG (dO 2 rfl rfl rfl tyA44.s) zU2 ?_
 refine aC (aA (a9 (a8 ?_)))
 obtain rfl:=bV hF
 exact aL (.inl rfl) Tryz.results34 (bQ 2 4 rfl rfl rfl rfl (.agg tyA44) .nil) rfl rfl
abbrev aGk:Nat:=35
def u6 (a0:cB):Option Int:=
 (sV a0.p).bind fun v2=>some v2
theorem zR {a0:cB} {r:Int} (hF:u6 a0=some r):Ct Tryz.prog 35 [.va (cB.e a0)] (.vc (pI .i64 r)):=by
 unfold u6 at hF
 refine bD Tryz.func35 rfl (by kernel_rfl) Tryz.ntmps35 rfl (fun w0 M0=>?_)
 refine aE (aF (cY rfl rfl trivial (fun b1=>?_)))
 refine aB (aN (.inr rfl)) ⟨bI _ _,trivial⟩ ?_
 refine aC (aA (aE (aF (aB (bE (off:=0) (k:=0) rfl tyF44_0) zU1 ?_))))
 refine aB (bK 0 2 rfl rfl rfl rfl (.agg tyA42)) zU1 ?_
 obtain⟨v2,h3,hF⟩:=aP hF
 refine aB (aJ rfl (aB2 h3) rfl) zU1 ?_
 refine bH ?_
 refine aC (aA (a9 (a8 ?_)))
 obtain rfl:=bV hF
 exact aL (.inl rfl) Tryz.results35 (.tmp rfl .nil) rfl rfl
abbrev aA3:Nat:=55
def rN (K:Nat) (a0:cB) (a1:cB):Option Bool:=
 (mO K a0.p a1.p).bind fun v3=>bif v3 then((mO K a0.q a1.q).bind fun v6=>some v6) else(some false)
theorem aAr {K:Nat} {a0:cB} {a1:cB} {r:Bool} (hF:rN K a0 a1=some r):Ct Tryz.prog 55 [.va (cB.e a0),.va (cB.e a1)] (.vc (pB r)):=by
 unfold rN at hF
 refine bD Tryz.func55 rfl (by kernel_rfl) Tryz.ntmps55 rfl (fun w0 M0=>?_)
 refine aE (aF (cY rfl rfl trivial (fun b1=>?_)))
 refine cY rfl rfl trivial (fun b2=>?_)
 refine aB (aN (.inr rfl)) ⟨cW _,trivial⟩ ?_
 refine aC (aA (aE (aF (aB (bE (off:=0) (k:=0) rfl tyF44_0) zU1 ?_))))
 refine aB (bK 1 2 rfl rfl rfl rfl (.agg tyA42)) zU1 ?_
 refine aB (bE (off:=0) (k:=0) rfl tyF44_0) zU1 ?_
 refine aB (bK 0 2 rfl rfl rfl rfl (.agg tyA42)) zU1 ?_
 obtain⟨v3,h4,hF⟩:=aP hF
 refine aB (aJ rfl (vO h4) rfl) zU2 ?_
 refine aI ?_
 refine cP (fun h5=>?_) (fun h5=>?_)
 ·have hF:=aV h5 hF
  refine aY (bE (off:=0) (k:=2) rfl tyF44_1) zU1 ?_
  refine aY (bK 1 2 rfl rfl rfl rfl (.agg tyA42)) zU1 ?_
  refine aY (bE (off:=0) (k:=2) rfl tyF44_1) zU1 ?_
  refine aY (bK 0 2 rfl rfl rfl rfl (.agg tyA42)) zU1 ?_
  obtain⟨v6,h7,hF⟩:=aP hF
  refine aY (aJ rfl (vO h7) rfl) zU2 ?_
  refine aB (bM rfl) zU2 ?_
  refine bH ?_
  refine aC (aA (a9 (a8 ?_)))
  obtain rfl:=bV hF
  exact aL (.inl rfl) Tryz.results55 (.tmp rfl .nil) rfl rfl
 have hF:=aX h5 hF
 refine aM ?_
 refine aM ?_
 refine aM ?_
 refine aM ?_
 refine aM ?_
 refine aB (bN rfl) ⟨rfl,cW _,trivial⟩ ?_
 refine bH ?_
 refine aC (aA (a9 (a8 ?_)))
 obtain rfl:=bV hF
 exact aL (.inl rfl) Tryz.results55 (.tmp rfl .nil) rfl rfl
abbrev aHY:Nat:=65
def aAg (K:Nat) (a0:cB) (a1:cB):Option cB:=
 bif((a1.p.d.length:Int)==0) then(some (⟨(⟨false,([]:List Int)⟩:aZ),(⟨false,([]:List Int)⟩:aZ)⟩:cB)) else((fD a1).bind fun v7=>(m5 v7 a1.p).bind fun v9=>(xK K a0 v9).bind fun v11=>some v11)
theorem aF4 {K:Nat} {a0:cB} {a1:cB} {r:cB} (hF:aAg K a0 a1=some r):Ct Tryz.prog 65 [.va (cB.e a0),.va (cB.e a1)] (.va (cB.e r)):=by
 unfold aAg at hF
 refine bD Tryz.func65 rfl (by kernel_rfl) Tryz.ntmps65 rfl (fun w0 M0=>?_)
 refine aE (aF (cY rfl rfl trivial (fun b1=>?_)))
 refine cY rfl rfl trivial (fun b2=>?_)
 refine bP rfl tyZ44 (fun b3=>?_)
 refine aC (aA (aE (aE (aF (aB (bE (off:=0) (k:=0) rfl tyF44_0) zU1 ?_)))))
 refine aB (bE (off:=0) (k:=1) rfl tyF42_1) zU1 ?_
 refine aB (bK 1 1 rfl rfl rfl rfl (.one tyO22)) zU1 ?_
 refine aB (bX rfl tyS22) zU1 ?_
 refine aB (gR rfl) ⟨rfl,bI _ _,trivial⟩ ?_
 refine aC (aA (bS rfl (fun h4=>?_) (fun h4=>?_)))
 ·have hF:=aV h4 hF
  refine aE (aF (aB (cZ (is:=[]) (xs:=[]) (ps:=[]) rfl tyB44 rfl rfl trivial rfl) trivial ?_))
  refine bG (dO 0 rfl rfl rfl tyA44.s) zU2 ?_
  refine aC (aA (a9 (a8 ?_)))
  obtain rfl:=bV hF
  exact aL (.inl rfl) Tryz.results65 (bQ 0 4 rfl rfl rfl rfl (.agg tyA44) .nil) rfl rfl
 have hF:=aX h4 hF
 refine bA (aA (aE ?_))
 obtain⟨v7,h8,hF⟩:=aP hF
 obtain⟨v9,h10,hF⟩:=aP hF
 obtain⟨v11,h12,hF⟩:=aP hF
 refine bT [0,0,2,0,8,30,63,127] 7 1 [.v (.va (cB.e a0)),.v (.va (cB.e a1)),.v (.va (aZ.e v7)),.v (.vc (pP (some b2) 0)),.v (.va (aZ.e a1.p)),.v (.va (cB.e v9)),.v (.va (cB.e v11))] aU ⟨d0 (bK 2 4 rfl rfl rfl rfl (.agg tyA44)) zU1,d0 (bK 1 4 rfl rfl rfl rfl (.agg tyA44)) zU1,d0 (aJ rfl (kV h8) rfl) zU1,d0 (bE (off:=0) (k:=0) rfl tyF44_0) zU1,d0 (bK 1 2 rfl rfl rfl rfl (.agg tyA42)) zU1,d0 (aJ rfl (tJ h10) rfl) zU2,d0 (aJ rfl (aCA h12) rfl) zU2,trivial⟩ (fun bs6 G5=>?_)
 refine bG (dO 0 rfl rfl rfl tyA44.s) zU2 ?_
 refine aC (aA (a9 (a8 ?_)))
 obtain rfl:=bV hF
 exact aL (.inl rfl) Tryz.results65 (bQ 0 4 rfl rfl rfl rfl (.agg tyA44) .nil) rfl rfl
abbrev aAU:Nat:=68
def rU (K:Nat) (a0:cB):Option Int:=
 (oY K a0.p).bind fun v2=>some v2
theorem aAu {K:Nat} {a0:cB} {r:Int} (hF:rU K a0=some r):Ct Tryz.prog 68 [.va (cB.e a0)] (.vc (pI .i64 r)):=by
 unfold rU at hF
 refine bD Tryz.func68 rfl (by kernel_rfl) Tryz.ntmps68 rfl (fun w0 M0=>?_)
 refine aE (aF (cY rfl rfl trivial (fun b1=>?_)))
 refine aB (aN (.inr rfl)) ⟨bI _ _,trivial⟩ ?_
 refine aC (aA (aE (aF (aB (bE (off:=0) (k:=0) rfl tyF44_0) zU1 ?_))))
 refine aB (bK 0 2 rfl rfl rfl rfl (.agg tyA42)) zU1 ?_
 obtain⟨v2,h3,hF⟩:=aP hF
 refine aB (aJ rfl (aAy h3) rfl) zU1 ?_
 refine bH ?_
 refine aC (aA (a9 (a8 ?_)))
 obtain rfl:=bV hF
 exact aL (.inl rfl) Tryz.results68 (.tmp rfl .nil) rfl rfl
abbrev aHK:Nat:=132
def xN (a0:cB):Option cB:=
 (qK a0.p).bind fun v5=>some (⟨v5,a0.q⟩:cB)
theorem aCs {a0:cB} {r:cB} (hF:xN a0=some r):Ct Tryz.prog 132 [.va (cB.e a0)] (.va (cB.e r)):=by
 unfold xN at hF
 refine bD Tryz.func132 rfl (by kernel_rfl) Tryz.ntmps132 rfl (fun w0 M0=>?_)
 refine aE (aF (cY rfl rfl trivial (fun b1=>?_)))
 refine bP rfl tyZ44 (fun b2=>?_)
 refine aC (aA (aE ?_))
 obtain⟨v5,h6,hF⟩:=aP hF
 refine bT [0,1,3,0,8,31,63] 6 1 [.v (.vc (pP (some b1) 0)),.v (.va (aZ.e a0.p)),.v (.va (aZ.e v5)),.v (.vc (pP (some b1) 2)),.v (.va (aZ.e a0.q)),.v (.va ((aZ.e v5)++(aZ.e a0.q)))] aU ⟨d0 (bE (off:=0) (k:=0) rfl tyF44_0) zU1,d0 (bK 1 2 rfl rfl rfl rfl (.agg tyA42)) zU1,d0 (aJ rfl (wH h6) rfl) zU1,d0 (bE (off:=0) (k:=2) rfl tyF44_1) zU1,d0 (bK 1 2 rfl rfl rfl rfl (.agg tyA42)) zU1,d0 (cZ (is:=[0,1]) (xs:=[.tmp 5,.tmp 7]) (ps:=[.va (aZ.e v5),.va (aZ.e a0.q)]) rfl tyB44 rfl rfl ⟨trivial,trivial,trivial⟩ rfl) zU2,trivial⟩ (fun bs4 G3=>?_)
 refine bG (dO 0 rfl rfl rfl tyA44.s) zU2 ?_
 refine aC (aA (a9 (a8 ?_)))
 obtain rfl:=bV hF
 exact aL (.inl rfl) Tryz.results132 (bQ 0 4 rfl rfl rfl rfl (.agg tyA44) .nil) rfl rfl
abbrev aHs:Nat:=73
def aAe (K:Nat) (a0:cB) (a1:cB):Option cB:=
 (xN a1).bind fun v6=>(xL K a0 v6).bind fun v8=>some v8
theorem aGg {K:Nat} {a0:cB} {a1:cB} {r:cB} (hF:aAe K a0 a1=some r):Ct Tryz.prog 73 [.va (cB.e a0),.va (cB.e a1)] (.va (cB.e r)):=by
 unfold aAe at hF
 refine bD Tryz.func73 rfl (by kernel_rfl) Tryz.ntmps73 rfl (fun w0 M0=>?_)
 refine aE (aF (cY rfl rfl trivial (fun b1=>?_)))
 refine cY rfl rfl trivial (fun b2=>?_)
 refine bP rfl tyZ44 (fun b3=>?_)
 refine aC (aA (aE ?_))
 obtain⟨v6,h7,hF⟩:=aP hF
 obtain⟨v8,h9,hF⟩:=aP hF
 refine bT [0,0,2,7,15] 4 1 [.v (.va (cB.e a0)),.v (.va (cB.e a1)),.v (.va (cB.e v6)),.v (.va (cB.e v8))] aU ⟨d0 (bK 2 4 rfl rfl rfl rfl (.agg tyA44)) zU1,d0 (bK 1 4 rfl rfl rfl rfl (.agg tyA44)) zU1,d0 (aJ rfl (aCs h7) rfl) zU1,d0 (aJ rfl (aCD h9) rfl) zU2,trivial⟩ (fun bs5 G4=>?_)
 refine bG (dO 0 rfl rfl rfl tyA44.s) zU2 ?_
 refine aC (aA (a9 (a8 ?_)))
 obtain rfl:=bV hF
 exact aL (.inl rfl) Tryz.results73 (bQ 0 4 rfl rfl rfl rfl (.agg tyA44) .nil) rfl rfl
abbrev aEY:Nat:=78
def w6 (K:Nat) (a0:cB):Option Bool:=
 (nS K a0.p).bind fun v2=>bif(!v2) then(some false) else((nS K a0.q).bind fun v5=>bif(!v5) then(some false) else(bif a0.q.neg then(some false) else((rR a0.q).bind fun v9=>bif v9 then(some false) else(bif((a0.q.d.length:Int)==0) then(some true) else((rX K a0.p a0.q).bind fun v13=>(rR v13).bind fun v15=>some v15)))))
theorem aEv {K:Nat} {a0:cB} {r:Bool} (hF:w6 K a0=some r):Ct Tryz.prog 78 [.va (cB.e a0)] (.vc (pB r)):=by
 unfold w6 at hF
 refine bD Tryz.func78 rfl (by kernel_rfl) Tryz.ntmps78 rfl (fun w0 M0=>?_)
 refine aE (aF (cY rfl rfl trivial (fun b1=>?_)))
 refine aB (aN (.inr rfl)) ⟨cW _,trivial⟩ ?_
 refine aC (aA (aE (bR (aE (aF (aB (bE (off:=0) (k:=0) rfl tyF44_0) zU1 ?_))))))
 refine aB (bK 0 2 rfl rfl rfl rfl (.agg tyA42)) zU1 ?_
 obtain⟨v2,h3,hF⟩:=aP hF
 refine aB (aJ rfl (xQ h3) rfl) zU1 ?_
 refine aB (hU rfl) zU1 ?_
 refine aI ?_
 refine cP (fun h4=>?_) (fun h4=>?_)
 ·have hF:=aV h4 hF
  refine aM ?_
  refine aM ?_
  refine aM ?_
  refine aM ?_
  refine aB (bM rfl) ⟨rfl,cW _,trivial⟩ ?_
  refine aI ?_
  refine aM ?_
  refine aM ?_
  refine aM ?_
  refine aB (bM rfl) ⟨rfl,cW _,trivial⟩ ?_
  refine aI ?_
  refine aM ?_
  refine aM ?_
  refine aM ?_
  refine aB (bM rfl) ⟨rfl,cW _,trivial⟩ ?_
  refine bH ?_
  refine aC (aA (iO rfl ?_))
  refine aE (aF (aB (aN (.inr rfl)) ⟨cW _,trivial⟩ ?_))
  refine aC (aA (a9 (a8 ?_)))
  obtain rfl:=bV hF
  exact aL (.inl rfl) Tryz.results78 (.tmp rfl .nil) rfl rfl
 have hF:=aX h4 hF
 refine aY (bE (off:=0) (k:=2) rfl tyF44_1) zU1 ?_
 refine aY (bK 0 2 rfl rfl rfl rfl (.agg tyA42)) zU1 ?_
 obtain⟨v5,h6,hF⟩:=aP hF
 refine aY (aJ rfl (xQ h6) rfl) zU1 ?_
 refine aY (hU rfl) zU1 ?_
 refine aB (bN rfl) zU2 ?_
 refine aI ?_
 refine cP (fun h7=>?_) (fun h7=>?_)
 ·have hF:=aV h7 hF
  refine aM ?_
  refine aM ?_
  refine aM ?_
  refine aB (bM rfl) ⟨rfl,cW _,trivial⟩ ?_
  refine aI ?_
  refine aM ?_
  refine aM ?_
  refine aM ?_
  refine aB (bM rfl) ⟨rfl,cW _,trivial⟩ ?_
  refine bH ?_
  refine aC (aA (iO rfl ?_))
  refine aE (aF (aB (aN (.inr rfl)) ⟨cW _,trivial⟩ ?_))
  refine aC (aA (a9 (a8 ?_)))
  obtain rfl:=bV hF
  exact aL (.inl rfl) Tryz.results78 (.tmp rfl .nil) rfl rfl
 have hF:=aX h7 hF
 refine aY (bE (off:=0) (k:=2) rfl tyF44_1) zU1 ?_
 refine aY (bE (off:=2) (k:=0) rfl tyF42_0) zU1 ?_
 refine aY (bK 0 1 rfl rfl rfl rfl (.one tyO4)) zU1 ?_
 refine aB (bN rfl) zU2 ?_
 refine aI ?_
 refine cP (fun h8=>?_) (fun h8=>?_)
 ·have hF:=aV h8 hF
  refine aM ?_
  refine aM ?_
  refine aM ?_
  refine aB (bM rfl) ⟨rfl,cW _,trivial⟩ ?_
  refine bH ?_
  refine aC (aA (iO rfl ?_))
  refine aE (aF (aB (aN (.inr rfl)) ⟨cW _,trivial⟩ ?_))
  refine aC (aA (a9 (a8 ?_)))
  obtain rfl:=bV hF
  exact aL (.inl rfl) Tryz.results78 (.tmp rfl .nil) rfl rfl
 have hF:=aX h8 hF
 refine aY (bE (off:=0) (k:=2) rfl tyF44_1) zU1 ?_
 refine aY (bK 0 2 rfl rfl rfl rfl (.agg tyA42)) zU1 ?_
 obtain⟨v9,h10,hF⟩:=aP hF
 refine aY (aJ rfl (vH h10) rfl) zU1 ?_
 refine aB (bN rfl) zU2 ?_
 refine bH ?_
 refine aC (aA (bS rfl (fun h11=>?_) (fun h11=>?_)))
 ·have hF:=aV h11 hF
  refine aE (aF (aB (aN (.inr rfl)) ⟨cW _,trivial⟩ ?_))
  refine aC (aA (a9 (a8 ?_)))
  obtain rfl:=bV hF
  exact aL (.inl rfl) Tryz.results78 (.tmp rfl .nil) rfl rfl
 have hF:=aX h11 hF
 refine aE (aF (aB (bE (off:=0) (k:=2) rfl tyF44_1) zU1 ?_))
 refine aB (bE (off:=2) (k:=1) rfl tyF42_1) zU1 ?_
 refine aB (bK 0 1 rfl rfl rfl rfl (.one tyO22)) zU1 ?_
 refine aB (bX rfl tyS22) zU1 ?_
 refine aB (gR rfl) ⟨rfl,bI _ _,trivial⟩ ?_
 refine bH ?_
 refine aC (aA (bS rfl (fun h12=>?_) (fun h12=>?_)))
 ·have hF:=aV h12 hF
  refine aE (aF (aB (aN (.inr rfl)) ⟨cW _,trivial⟩ ?_))
  refine aC (aA (a9 (a8 ?_)))
  obtain rfl:=bV hF
  exact aL (.inl rfl) Tryz.results78 (.tmp rfl .nil) rfl rfl
 have hF:=aX h12 hF
 refine bA (bJ (aA (aE (aF (aB (bE (off:=0) (k:=0) rfl tyF44_0) zU1 ?_)))))
 refine aB (bK 0 2 rfl rfl rfl rfl (.agg tyA42)) zU1 ?_
 refine aB (bE (off:=0) (k:=2) rfl tyF44_1) zU1 ?_
 refine aB (bK 0 2 rfl rfl rfl rfl (.agg tyA42)) zU1 ?_
 obtain⟨v13,h14,hF⟩:=aP hF
 refine aB (aJ rfl (zS h14) rfl) zU2 ?_
 obtain⟨v15,h16,hF⟩:=aP hF
 refine aB (aJ rfl (vH h16) rfl) zU1 ?_
 refine bH ?_
 refine aC (aA (a9 (a8 ?_)))
 obtain rfl:=bV hF
 exact aL (.inl rfl) Tryz.results78 (.tmp rfl .nil) rfl rfl
abbrev aAs:Nat:=83
def qU (K:Nat) (a0:cB):Option Bool:=
 (kB K a0.p).bind fun v2=>bif(!v2) then(some false) else((kB K a0.q).bind fun v5=>bif(!v5) then(some false) else(bif a0.q.neg then(some false) else((kK a0.q).bind fun v9=>bif v9 then(some false) else(bif((a0.q.d.length:Int)==0) then(some true) else((nM K a0.p a0.q).bind fun v13=>(kK v13).bind fun v15=>some v15)))))
theorem zN {K:Nat} {a0:cB} {r:Bool} (hF:qU K a0=some r):Ct Tryz.prog 83 [.va (cB.e a0)] (.vc (pB r)):=by
 unfold qU at hF
 refine bD Tryz.func83 rfl (by kernel_rfl) Tryz.ntmps83 rfl (fun w0 M0=>?_)
 refine aE (aF (cY rfl rfl trivial (fun b1=>?_)))
 refine aB (aN (.inr rfl)) ⟨cW _,trivial⟩ ?_
 refine aC (aA (aE (aE (aF (aB (bE (off:=0) (k:=0) rfl tyF44_0) zU1 ?_)))))
 refine aB (bK 0 2 rfl rfl rfl rfl (.agg tyA42)) zU1 ?_
 obtain⟨v2,h3,hF⟩:=aP hF
 refine aB (aJ rfl (vG h3) rfl) zU1 ?_
 refine aB (hU rfl) zU1 ?_
 refine aI ?_
 refine cP (fun h4=>?_) (fun h4=>?_)
 ·have hF:=aV h4 hF
  refine aM ?_
  refine aM ?_
  refine aM ?_
  refine aM ?_
  refine aB (bM rfl) ⟨rfl,cW _,trivial⟩ ?_
  refine aI ?_
  refine aM ?_
  refine aM ?_
  refine aM ?_
  refine aB (bM rfl) ⟨rfl,cW _,trivial⟩ ?_
  refine aI ?_
  refine aM ?_
  refine aM ?_
  refine aM ?_
  refine aB (bM rfl) ⟨rfl,cW _,trivial⟩ ?_
  refine aC (aA (iO rfl ?_))
  refine aE (aF (aB (aN (.inr rfl)) ⟨cW _,trivial⟩ ?_))
  refine aC (aA (a9 (a8 ?_)))
  obtain rfl:=bV hF
  exact aL (.inl rfl) Tryz.results83 (.tmp rfl .nil) rfl rfl
 have hF:=aX h4 hF
 refine aY (bE (off:=0) (k:=2) rfl tyF44_1) zU1 ?_
 refine aY (bK 0 2 rfl rfl rfl rfl (.agg tyA42)) zU1 ?_
 obtain⟨v5,h6,hF⟩:=aP hF
 refine aY (aJ rfl (vG h6) rfl) zU1 ?_
 refine aY (hU rfl) zU1 ?_
 refine aB (bN rfl) zU2 ?_
 refine aI ?_
 refine cP (fun h7=>?_) (fun h7=>?_)
 ·have hF:=aV h7 hF
  refine aM ?_
  refine aM ?_
  refine aM ?_
  refine aB (bM rfl) ⟨rfl,cW _,trivial⟩ ?_
  refine aI ?_
  refine aM ?_
  refine aM ?_
  refine aM ?_
  refine aB (bM rfl) ⟨rfl,cW _,trivial⟩ ?_
  refine aC (aA (iO rfl ?_))
  refine aE (aF (aB (aN (.inr rfl)) ⟨cW _,trivial⟩ ?_))
  refine aC (aA (a9 (a8 ?_)))
  obtain rfl:=bV hF
  exact aL (.inl rfl) Tryz.results83 (.tmp rfl .nil) rfl rfl
 have hF:=aX h7 hF
 refine aY (bE (off:=0) (k:=2) rfl tyF44_1) zU1 ?_
 refine aY (bE (off:=2) (k:=0) rfl tyF42_0) zU1 ?_
 refine aY (bK 0 1 rfl rfl rfl rfl (.one tyO4)) zU1 ?_
 refine aB (bN rfl) zU2 ?_
 refine aI ?_
 refine cP (fun h8=>?_) (fun h8=>?_)
 ·have hF:=aV h8 hF
  refine aM ?_
  refine aM ?_
  refine aM ?_
  refine aB (bM rfl) ⟨rfl,cW _,trivial⟩ ?_
  refine aC (aA (iO rfl ?_))
  refine aE (aF (aB (aN (.inr rfl)) ⟨cW _,trivial⟩ ?_))
  refine aC (aA (a9 (a8 ?_)))
  obtain rfl:=bV hF
  exact aL (.inl rfl) Tryz.results83 (.tmp rfl .nil) rfl rfl
 have hF:=aX h8 hF
 refine aY (bE (off:=0) (k:=2) rfl tyF44_1) zU1 ?_
 refine aY (bK 0 2 rfl rfl rfl rfl (.agg tyA42)) zU1 ?_
 obtain⟨v9,h10,hF⟩:=aP hF
 refine aY (aJ rfl (rQ h10) rfl) zU1 ?_
 refine aB (bN rfl) zU2 ?_
 refine aC (aA (bS rfl (fun h11=>?_) (fun h11=>?_)))
 ·have hF:=aV h11 hF
  refine aE (aF (aB (aN (.inr rfl)) ⟨cW _,trivial⟩ ?_))
  refine aC (aA (a9 (a8 ?_)))
  obtain rfl:=bV hF
  exact aL (.inl rfl) Tryz.results83 (.tmp rfl .nil) rfl rfl
 have hF:=aX h11 hF
 refine bA (aA (aE (aE (aF (aB (bE (off:=0) (k:=2) rfl tyF44_1) zU1 ?_)))))
 refine aB (bE (off:=2) (k:=1) rfl tyF42_1) zU1 ?_
 refine aB (bK 0 1 rfl rfl rfl rfl (.one tyO22)) zU1 ?_
 refine aB (bX rfl tyS22) zU1 ?_
 refine aB (gR rfl) ⟨rfl,bI _ _,trivial⟩ ?_
 refine aC (aA (bS rfl (fun h12=>?_) (fun h12=>?_)))
 ·have hF:=aV h12 hF
  refine aE (aF (aB (aN (.inr rfl)) ⟨cW _,trivial⟩ ?_))
  refine aC (aA (a9 (a8 ?_)))
  obtain rfl:=bV hF
  exact aL (.inl rfl) Tryz.results83 (.tmp rfl .nil) rfl rfl
 have hF:=aX h12 hF
 refine bA (aA (aE (aF (aB (bE (off:=0) (k:=0) rfl tyF44_0) zU1 ?_))))
 refine aB (bK 0 2 rfl rfl rfl rfl (.agg tyA42)) zU1 ?_
 refine aB (bE (off:=0) (k:=2) rfl tyF44_1) zU1 ?_
 refine aB (bK 0 2 rfl rfl rfl rfl (.agg tyA42)) zU1 ?_
 obtain⟨v13,h14,hF⟩:=aP hF
 refine aB (aJ rfl (wF h14) rfl) zU2 ?_
 obtain⟨v15,h16,hF⟩:=aP hF
 refine aB (aJ rfl (rQ h16) rfl) zU1 ?_
 refine bH ?_
 refine aC (aA (a9 (a8 ?_)))
 obtain rfl:=bV hF
 exact aL (.inl rfl) Tryz.results83 (.tmp rfl .nil) rfl rfl
def gX (K:Nat) (a0:cB):Option aZ:=
 bif((a0.q.d.length:Int)==0) then((gU K 1).bind fun v4=>some v4) else(some a0.q)
theorem mL {K:Nat} {a0:cB} {r:aZ} (hF:gX K a0=some r):Ct Tryz.prog 176 [.va (cB.e a0)] (.va (aZ.e r)):=by
 unfold gX at hF
 refine bD Tryz.func176 rfl (by kernel_rfl) Tryz.ntmps176 rfl (fun w0 M0=>?_)
 refine aE (aF (cY rfl rfl trivial (fun b1=>?_)))
 refine bP rfl tyZ42 (fun b2=>?_)
 refine aC (aA (aE (aE (aF (aB (bE (off:=0) (k:=2) rfl tyF44_1) zU1 ?_)))))
 refine aB (bE (off:=2) (k:=1) rfl tyF42_1) zU1 ?_
 refine aB (bK 1 1 rfl rfl rfl rfl (.one tyO22)) zU1 ?_
 refine aB (bX rfl tyS22) zU1 ?_
 refine aB (gR rfl) ⟨rfl,bI _ _,trivial⟩ ?_
 refine aC (aA (bS rfl (fun h3=>?_) (fun h3=>?_)))
 ·have hF:=aV h3 hF
  refine aE (aF ?_)
  obtain⟨v4,h5,hF⟩:=aP hF
  refine aB (aJ rfl (lD h5) rfl) ⟨bI _ _,trivial⟩ ?_
  refine bG (dO 0 rfl rfl rfl tyA42.s) zU2 ?_
  refine aC (aA (a9 (a8 ?_)))
  obtain rfl:=bV hF
  exact aL (.inl rfl) Tryz.results176 (bQ 0 2 rfl rfl rfl rfl (.agg tyA42) .nil) rfl rfl
 have hF:=aX h3 hF
 refine bA (aA (aE (aF (aB (bE (off:=0) (k:=2) rfl tyF44_1) zU1 ?_))))
 refine aB (bK 1 2 rfl rfl rfl rfl (.agg tyA42)) zU1 ?_
 refine bG (dO 0 rfl rfl rfl tyA42.s) zU2 ?_
 refine aC (aA (a9 (a8 ?_)))
 obtain rfl:=bV hF
 exact aL (.inl rfl) Tryz.results176 (bQ 0 2 rfl rfl rfl rfl (.agg tyA42) .nil) rfl rfl
abbrev aBp:Nat:=86
def sJ (K:Nat) (a0:cB) (a1:cB):Option cB:=
 (gW K a0.p a1.p).bind fun v6=>(gX K a0).bind fun v8=>(gX K a1).bind fun v10=>(gW K v8 v10).bind fun v12=>(iF K v6 v12).bind fun v14=>some v14
theorem aAJ {K:Nat} {a0:cB} {a1:cB} {r:cB} (hF:sJ K a0 a1=some r):Ct Tryz.prog 86 [.va (cB.e a0),.va (cB.e a1)] (.va (cB.e r)):=by
 unfold sJ at hF
 refine bD Tryz.func86 rfl (by kernel_rfl) Tryz.ntmps86 rfl (fun w0 M0=>?_)
 refine aE (aF (cY rfl rfl trivial (fun b1=>?_)))
 refine cY rfl rfl trivial (fun b2=>?_)
 refine bP rfl tyZ44 (fun b3=>?_)
 refine aC (aA (aE ?_))
 obtain⟨v6,h7,hF⟩:=aP hF
 obtain⟨v8,h9,hF⟩:=aP hF
 obtain⟨v10,h11,hF⟩:=aP hF
 obtain⟨v12,h13,hF⟩:=aP hF
 obtain⟨v14,h15,hF⟩:=aP hF
 refine bT [0,1,0,4,15,0,63,0,255,511,1023,2047] 11 1 [.v (.vc (pP (some b1) 0)),.v (.va (aZ.e a0.p)),.v (.vc (pP (some b2) 0)),.v (.va (aZ.e a1.p)),.v (.va (aZ.e v6)),.v (.va (cB.e a0)),.v (.va (aZ.e v8)),.v (.va (cB.e a1)),.v (.va (aZ.e v10)),.v (.va (aZ.e v12)),.v (.va (cB.e v14))] aU ⟨d0 (bE (off:=0) (k:=0) rfl tyF44_0) zU1,d0 (bK 2 2 rfl rfl rfl rfl (.agg tyA42)) zU1,d0 (bE (off:=0) (k:=0) rfl tyF44_0) zU1,d0 (bK 1 2 rfl rfl rfl rfl (.agg tyA42)) zU1,d0 (aJ rfl (mK h7) rfl) zU2,d0 (bK 2 4 rfl rfl rfl rfl (.agg tyA44)) zU1,d0 (aJ rfl (mL h9) rfl) zU1,d0 (bK 1 4 rfl rfl rfl rfl (.agg tyA44)) zU1,d0 (aJ rfl (mL h11) rfl) zU1,d0 (aJ rfl (mK h13) rfl) zU2,d0 (aJ rfl (tB h15) rfl) zU2,trivial⟩ (fun bs5 G4=>?_)
 refine bG (dO 0 rfl rfl rfl tyA44.s) zU2 ?_
 refine aC (aA (a9 (a8 ?_)))
 obtain rfl:=bV hF
 exact aL (.inl rfl) Tryz.results86 (bQ 0 4 rfl rfl rfl rfl (.agg tyA44) .nil) rfl rfl
abbrev aBy:Nat:=87
def p6 (K:Nat) (a0:cB) (a1:cB):Option cB:=
 (gX K a1).bind fun v6=>(gW K a0.p v6).bind fun v8=>(gX K a0).bind fun v12=>(gW K a1.p v12).bind fun v14=>(nN K v8 v14).bind fun v18=>(gX K a0).bind fun v20=>(gX K a1).bind fun v22=>(gW K v20 v22).bind fun v24=>(iF K v18 v24).bind fun v26=>some v26
theorem wS {K:Nat} {a0:cB} {a1:cB} {r:cB} (hF:p6 K a0 a1=some r):Ct Tryz.prog 87 [.va (cB.e a0),.va (cB.e a1)] (.va (cB.e r)):=by
 unfold p6 at hF
 refine bD Tryz.func87 rfl (by kernel_rfl) Tryz.ntmps87 rfl (fun w0 M0=>?_)
 refine aE (aF (cY rfl rfl trivial (fun b1=>?_)))
 refine cY rfl rfl trivial (fun b2=>?_)
 refine bP rfl tyZ44 (fun b3=>?_)
 refine aC (aA (aE ?_))
 obtain⟨v6,h7,hF⟩:=aP hF
 obtain⟨v8,h9,hF⟩:=aP hF
 refine bT [0,1,0,4,15,0,63] 6 1 [.v (.vc (pP (some b1) 0)),.v (.va (aZ.e a0.p)),.v (.va (cB.e a1)),.v (.va (aZ.e v6)),.v (.va (aZ.e v8)),.a 42 ([pB false]++[pS cI ([]:List Int)])] aU ⟨d0 (bE (off:=0) (k:=0) rfl tyF44_0) zU1,d0 (bK 2 2 rfl rfl rfl rfl (.agg tyA42)) zU1,d0 (bK 1 4 rfl rfl rfl rfl (.agg tyA44)) zU1,d0 (aJ rfl (mL h7) rfl) zU1,d0 (aJ rfl (mK h9) rfl) zU2,⟨rfl,.alc tyZ42⟩,trivial⟩ (fun bs5 G4=>?_)
 refine bG (dO 0 rfl rfl rfl tyA42.s) zU2 ?_
 refine aC (aA (aE ?_))
 obtain⟨v12,h13,hF⟩:=aP hF
 obtain⟨v14,h15,hF⟩:=aP hF
 refine bT [0,1,0,4,15,0,63] 6 1 [.v (.vc (pP (some b2) 0)),.v (.va (aZ.e a1.p)),.v (.va (cB.e a0)),.v (.va (aZ.e v12)),.v (.va (aZ.e v14)),.a 42 ([pB false]++[pS cI ([]:List Int)])] aU ⟨d0 (bE (off:=0) (k:=0) rfl tyF44_0) zU1,d0 (bK 2 2 rfl rfl rfl rfl (.agg tyA42)) zU1,d0 (bK 3 4 rfl rfl rfl rfl (.agg tyA44)) zU1,d0 (aJ rfl (mL h13) rfl) zU1,d0 (aJ rfl (mK h15) rfl) zU2,⟨rfl,.alc tyZ42⟩,trivial⟩ (fun bs11 G10=>?_)
 refine bG (dO 0 rfl rfl rfl tyA42.s) zU2 ?_
 refine aC (aA (aE ?_))
 obtain⟨v18,h19,hF⟩:=aP hF
 obtain⟨v20,h21,hF⟩:=aP hF
 obtain⟨v22,h23,hF⟩:=aP hF
 obtain⟨v24,h25,hF⟩:=aP hF
 obtain⟨v26,h27,hF⟩:=aP hF
 refine bT [0,0,3,0,15,0,63,127,255,511] 9 1 [.v (.va (aZ.e v8)),.v (.va (aZ.e v14)),.v (.va (aZ.e v18)),.v (.va (cB.e a0)),.v (.va (aZ.e v20)),.v (.va (cB.e a1)),.v (.va (aZ.e v22)),.v (.va (aZ.e v24)),.v (.va (cB.e v26))] aU ⟨d0 (bK 1 2 rfl rfl rfl rfl (.agg tyA42)) zU1,d0 (bK 0 2 rfl rfl rfl rfl (.agg tyA42)) zU1,d0 (aJ rfl (wA h19) rfl) zU2,d0 (bK 4 4 rfl rfl rfl rfl (.agg tyA44)) zU1,d0 (aJ rfl (mL h21) rfl) zU1,d0 (bK 3 4 rfl rfl rfl rfl (.agg tyA44)) zU1,d0 (aJ rfl (mL h23) rfl) zU1,d0 (aJ rfl (mK h25) rfl) zU2,d0 (aJ rfl (tB h27) rfl) zU2,trivial⟩ (fun bs17 G16=>?_)
 refine bG (dO 2 rfl rfl rfl tyA44.s) zU2 ?_
 refine aC (aA (a9 (a8 ?_)))
 obtain rfl:=bV hF
 exact aL (.inl rfl) Tryz.results87 (bQ 2 4 rfl rfl rfl rfl (.agg tyA44) .nil) rfl rfl
def p9 (K:Nat) (a0:cB):Option cB:=
 (lC K a0.p).bind fun v5=>some (⟨v5,a0.q⟩:cB)
theorem aAR {K:Nat} {a0:cB} {r:cB} (hF:p9 K a0=some r):Ct Tryz.prog 172 [.va (cB.e a0)] (.va (cB.e r)):=by
 unfold p9 at hF
 refine bD Tryz.func172 rfl (by kernel_rfl) Tryz.ntmps172 rfl (fun w0 M0=>?_)
 refine aE (aF (cY rfl rfl trivial (fun b1=>?_)))
 refine bP rfl tyZ44 (fun b2=>?_)
 refine aC (aA (aE ?_))
 obtain⟨v5,h6,hF⟩:=aP hF
 refine bT [0,1,3,0,8,31,63] 6 1 [.v (.vc (pP (some b1) 0)),.v (.va (aZ.e a0.p)),.v (.va (aZ.e v5)),.v (.vc (pP (some b1) 2)),.v (.va (aZ.e a0.q)),.v (.va ((aZ.e v5)++(aZ.e a0.q)))] aU ⟨d0 (bE (off:=0) (k:=0) rfl tyF44_0) zU1,d0 (bK 1 2 rfl rfl rfl rfl (.agg tyA42)) zU1,d0 (aJ rfl (t0 h6) rfl) zU1,d0 (bE (off:=0) (k:=2) rfl tyF44_1) zU1,d0 (bK 1 2 rfl rfl rfl rfl (.agg tyA42)) zU1,d0 (cZ (is:=[0,1]) (xs:=[.tmp 5,.tmp 7]) (ps:=[.va (aZ.e v5),.va (aZ.e a0.q)]) rfl tyB44 rfl rfl ⟨trivial,trivial,trivial⟩ rfl) zU2,trivial⟩ (fun bs4 G3=>?_)
 refine bG (dO 0 rfl rfl rfl tyA44.s) zU2 ?_
 refine aC (aA (a9 (a8 ?_)))
 obtain rfl:=bV hF
 exact aL (.inl rfl) Tryz.results172 (bQ 0 4 rfl rfl rfl rfl (.agg tyA44) .nil) rfl rfl
abbrev aBg:Nat:=105
def sG (K:Nat) (a0:cB) (a1:cB):Option cB:=
 (p9 K a1).bind fun v6=>(p6 K a0 v6).bind fun v8=>some v8
theorem aAG {K:Nat} {a0:cB} {a1:cB} {r:cB} (hF:sG K a0 a1=some r):Ct Tryz.prog 105 [.va (cB.e a0),.va (cB.e a1)] (.va (cB.e r)):=by
 unfold sG at hF
 refine bD Tryz.func105 rfl (by kernel_rfl) Tryz.ntmps105 rfl (fun w0 M0=>?_)
 refine aE (aF (cY rfl rfl trivial (fun b1=>?_)))
 refine cY rfl rfl trivial (fun b2=>?_)
 refine bP rfl tyZ44 (fun b3=>?_)
 refine aC (aA (aE ?_))
 obtain⟨v6,h7,hF⟩:=aP hF
 obtain⟨v8,h9,hF⟩:=aP hF
 refine bT [0,0,2,7,15] 4 1 [.v (.va (cB.e a0)),.v (.va (cB.e a1)),.v (.va (cB.e v6)),.v (.va (cB.e v8))] aU ⟨d0 (bK 2 4 rfl rfl rfl rfl (.agg tyA44)) zU1,d0 (bK 1 4 rfl rfl rfl rfl (.agg tyA44)) zU1,d0 (aJ rfl (aAR h7) rfl) zU1,d0 (aJ rfl (wS h9) rfl) zU2,trivial⟩ (fun bs5 G4=>?_)
 refine bG (dO 0 rfl rfl rfl tyA44.s) zU2 ?_
 refine aC (aA (a9 (a8 ?_)))
 obtain rfl:=bV hF
 exact aL (.inl rfl) Tryz.results105 (bQ 0 4 rfl rfl rfl rfl (.agg tyA44) .nil) rfl rfl
abbrev aIK:Nat:=112
def aA6 (K:Nat) (a0:Int) (a1:Int):Option cB:=
 (lV a0).bind fun v2=>(lV a1).bind fun v4=>(jP K v2 v4).bind fun v6=>some v6
theorem aHL {K:Nat} {a0:Int} {a1:Int} {r:cB} (hF:aA6 K a0 a1=some r):Ct Tryz.prog 112 [.vc (pI .i64 a0),.vc (pI .i64 a1)] (.va (cB.e r)):=by
 unfold aA6 at hF
 refine bD Tryz.func112 rfl (by kernel_rfl) Tryz.ntmps112 rfl (fun w0 M0=>?_)
 refine aE (aF (bP rfl tyZ44 (fun b1=>?_)))
 refine aC (aA (aE (aF (aI ?_))))
 obtain⟨v2,h3,hF⟩:=aP hF
 refine aB (aJ rfl (qN h3) rfl) zU1 ?_
 refine aI ?_
 obtain⟨v4,h5,hF⟩:=aP hF
 refine aB (aJ rfl (qN h5) rfl) zU1 ?_
 obtain⟨v6,h7,hF⟩:=aP hF
 refine aB (aJ rfl (sQ h7) rfl) zU2 ?_
 refine bG (dO 0 rfl rfl rfl tyA44.s) zU2 ?_
 refine aC (aA (a9 (a8 ?_)))
 obtain rfl:=bV hF
 exact aL (.inl rfl) Tryz.results112 (bQ 0 4 rfl rfl rfl rfl (.agg tyA44) .nil) rfl rfl
abbrev aDp:Nat:=144
def u9 (K:Nat) (a0:cB) (a1:cB):Option Int:=
 (u6 a0).bind fun v5=>(u6 a1).bind fun v7=>bif(v5 != v7) then((lV v5).bind fun v10=>(lV v7).bind fun v12=>(lM K v10 v12).bind fun v14=>some v14) else(bif(v5==0) then((lV v5).bind fun v17=>(lV v7).bind fun v19=>(lM K v17 v19).bind fun v21=>some v21) else((fD a1).bind fun v25=>(dH K a0.p v25).bind fun v27=>(fD a0).bind fun v29=>(dH K a1.p v29).bind fun v31=>(lM K v27 v31).bind fun v33=>some v33))
theorem aDe {K:Nat} {a0:cB} {a1:cB} {r:Int} (hF:u9 K a0 a1=some r):Ct Tryz.prog 144 [.va (cB.e a0),.va (cB.e a1)] (.vc (pI .i64 r)):=by
 unfold u9 at hF
 refine bD Tryz.func144 rfl (by kernel_rfl) Tryz.ntmps144 rfl (fun w0 M0=>?_)
 refine aE (aF (cY rfl rfl trivial (fun b1=>?_)))
 refine cY rfl rfl trivial (fun b2=>?_)
 refine aB (aN (.inr rfl)) ⟨bI _ _,trivial⟩ ?_
 refine aC (aA (aE (aE ?_)))
 obtain⟨v5,h6,hF⟩:=aP hF
 obtain⟨v7,h8,hF⟩:=aP hF
 refine bT [0,1,0,7,15,31] 6 0 [.v (.va (cB.e a0)),.v (.vc (pI .i64 v5)),.v (.va (cB.e a1)),.v (.vc (pI .i64 v7)),.v (.vc (pI .i64 v5)),.v (.vc (pI .i64 v7))] aU ⟨d0 (bK 1 4 rfl rfl rfl rfl (.agg tyA44)) zU1,d0 (aJ rfl (zR h6) rfl) zU1,d0 (bK 0 4 rfl rfl rfl rfl (.agg tyA44)) zU1,d0 (aJ rfl (zR h8) rfl) zU1,d0 (aN (.inr rfl)) zU1,d0 (aN (.inr rfl)) zU1,trivial⟩ (fun bs4 G3=>?_)
 refine aC (aA (aE (aF (aI ?_))))
 refine aI ?_
 refine aB (s7 rfl) zU2 ?_
 refine aI ?_
 refine cP (fun h9=>?_) (fun h9=>?_)
 ·have hF:=aV h9 hF
  refine aM ?_
  refine aM ?_
  refine aB (bM rfl) ⟨rfl,cW _,trivial⟩ ?_
  refine aC (aA (iO rfl ?_))
  refine aE (aF (aI ?_))
  obtain⟨v10,h11,hF⟩:=aP hF
  refine aB (aJ rfl (qN h11) rfl) zU1 ?_
  refine aI ?_
  obtain⟨v12,h13,hF⟩:=aP hF
  refine aB (aJ rfl (qN h13) rfl) zU1 ?_
  obtain⟨v14,h15,hF⟩:=aP hF
  refine aB (aJ rfl (tV h15) rfl) zU2 ?_
  refine bH ?_
  refine aC (aA (a9 (a8 ?_)))
  obtain rfl:=bV hF
  exact aL (.inl rfl) Tryz.results144 (.tmp rfl .nil) rfl rfl
 have hF:=aX h9 hF
 refine aY (aN (.inl rfl)) zU1 ?_
 refine aY (gR rfl) ⟨rfl,bI _ _,trivial⟩ ?_
 refine aB (bN rfl) zU2 ?_
 refine aC (aA (bS rfl (fun h16=>?_) (fun h16=>?_)))
 ·have hF:=aV h16 hF
  refine aE (aF (aI ?_))
  obtain⟨v17,h18,hF⟩:=aP hF
  refine aB (aJ rfl (qN h18) rfl) zU1 ?_
  refine aI ?_
  obtain⟨v19,h20,hF⟩:=aP hF
  refine aB (aJ rfl (qN h20) rfl) zU1 ?_
  obtain⟨v21,h22,hF⟩:=aP hF
  refine aB (aJ rfl (tV h22) rfl) zU2 ?_
  refine bH ?_
  refine aC (aA (a9 (a8 ?_)))
  obtain rfl:=bV hF
  exact aL (.inl rfl) Tryz.results144 (.tmp rfl .nil) rfl rfl
 have hF:=aX h16 hF
 refine bA (aA (aE ?_))
 obtain⟨v25,h26,hF⟩:=aP hF
 obtain⟨v27,h28,hF⟩:=aP hF
 obtain⟨v29,h30,hF⟩:=aP hF
 obtain⟨v31,h32,hF⟩:=aP hF
 obtain⟨v33,h34,hF⟩:=aP hF
 refine bT [0,1,0,4,15,0,32,0,159,511,1023,2047] 12 0 [.v (.vc (pP (some b1) 0)),.v (.va (aZ.e a0.p)),.v (.va (cB.e a1)),.v (.va (aZ.e v25)),.v (.va (aZ.e v27)),.v (.vc (pP (some b2) 0)),.v (.va (aZ.e a1.p)),.v (.va (cB.e a0)),.v (.va (aZ.e v29)),.v (.va (aZ.e v31)),.v (.vc (pI .i64 v33)),.v (.vc (pI .i64 v33))] aU ⟨d0 (bE (off:=0) (k:=0) rfl tyF44_0) zU1,d0 (bK 1 2 rfl rfl rfl rfl (.agg tyA42)) zU1,d0 (bK 0 4 rfl rfl rfl rfl (.agg tyA44)) zU1,d0 (aJ rfl (kV h26) rfl) zU1,d0 (aJ rfl (gS h28) rfl) zU2,d0 (bE (off:=0) (k:=0) rfl tyF44_0) zU1,d0 (bK 0 2 rfl rfl rfl rfl (.agg tyA42)) zU1,d0 (bK 1 4 rfl rfl rfl rfl (.agg tyA44)) zU1,d0 (aJ rfl (kV h30) rfl) zU1,d0 (aJ rfl (gS h32) rfl) zU2,d0 (aJ rfl (tV h34) rfl) zU2,d0 (aN (.inr rfl)) zU1,trivial⟩ (fun bs24 G23=>?_)
 refine aC (aA (a9 (a8 ?_)))
 obtain rfl:=bV hF
 exact aL (.inl rfl) Tryz.results144 (.tmp rfl .nil) rfl rfl
end Go.Proofs.YtcjdedkdoagifaaGreat
set_option linter.unusedVariables false
set_option maxRecDepth 100000
namespace Go.Proofs.YtcjdedkdoagifaaGreat
end Go.Proofs.YtcjdedkdoagifaaGreat
set_option linter.unusedVariables false
namespace Go.Proofs.YtcjdedkdoagifaaGreat
open Rat
theorem Z0:Z 0=(⟨false,[]⟩:aZ):=by rw [show(0:Int)=((0:Nat):Int) from rfl,←m6];rfl
theorem aGB {x y:Int} (h:Z x=Z y):x=y:=by
 have h1:decide (x<0)=decide (y<0):=congrArg aZ.neg h
 have h2:dD x.natAbs=dD y.natAbs:=congrArg aZ.d h
 have h3:(x.natAbs:Int)=y.natAbs:=by rw [←eH,←eH,h2]
 have h4:(x<0)↔(y<0):=by simpa using h1
 omega
theorem aAV {x:Int}:(((Z x).d.length:Int)==0)=decide (x=0):=by
 rw [rE]
 by_cases h:x=0
 ·rw [dT h];subst h;rw [show Int.natAbs 0=0 from rfl,uO];rfl
 ·have:dl x.natAbs≠0:=by rw [Ne,tX];omega
  rw [dF h,qF (by omega)]
theorem dl1:dl 1=1:=by
 unfold dl;rw [aGr (by decide) (by decide)];rfl
theorem zP (x:Int):rR (Z x)=some (decide (x=1)):=by
 unfold rR
 rw [sR]
 by_cases h:x<0
 ·rw [dT h,dF (p:=x=1) (by omega)];simp
 ·rw [dF h]
  simp only [Bool.not_false,d8,Z_d]
  by_cases h1:(dD x.natAbs).length=1
  ·obtain⟨a1,a2⟩:=zJ h1
   have e:=dU (xs:=dD x.natAbs) (i:=0) (by omega)
   rw [a1] at e
   simp only [Int.natCast_zero] at e
   rw [qT (by omega),d8,e,oB]
   by_cases h2:x=1
   ·rw [dT h2,qT (by omega)]
   ·rw [dF h2,qF (by omega)]
  ·rw [qF (by omega),dS,dF]
   intro e;subst e;exact h1 dl1
theorem aA5 (x:Int):kK (Z x)=some (decide (x=1)):=by
 unfold kK
 rw [sR]
 by_cases h:x<0
 ·rw [dT h,dF (p:=x=1) (by omega)];rfl
 ·rw [dF h]
  simp only [dS,Z_d]
  by_cases h1:(dD x.natAbs).length=1
  ·obtain⟨a1,a2⟩:=zJ h1
   have e:=dU (xs:=dD x.natAbs) (i:=0) (by omega)
   rw [a1] at e
   simp only [Int.natCast_zero] at e
   rw [nF (by omega),dS,e,oB]
   by_cases h2:x=1
   ·rw [dT h2,qT (by omega)]
   ·rw [dF h2,qF (by omega)]
  ·rw [nT (by omega),d8,dF]
   intro e;subst e;exact h1 dl1
theorem aKJ {p q:Int} (hq:0<q) (hg:Int.gcd p q=1):(p/. q).num=p∧(p/. q).den=q.natAbs:=by
 rw [Rat.num_divInt,Rat.den_divInt,Int.gcd_comm,hg,if_neg (by omega),Int.sign_eq_one_of_pos hq]
 simp
theorem aCH {p q:Int} (hq:0<q) (hg:Int.gcd p q=1):Qr (p/. q)=⟨Z p,if q=1 then⟨false,[]⟩ else Z q⟩:=by
 obtain⟨h1,h2⟩:=aKJ hq hg
 rw [aAM,h1,h2]
 by_cases h:q=1
 ·rw [if_pos h,if_pos (by omega)]
 ·rw [if_neg h,if_neg (by omega),show(q.natAbs:Int)=q by omega]
theorem y0 {p q:Int} (hq:q≠0) (hg:Int.gcd p q=1):m5 (Z p) (Z q)=some (Qr (p/. q)):=by
 unfold m5
 rw [sR]
 by_cases h:q<0
 ·rw [dT h]
  simp only [d8,aGu,oB,zP]
  rw [←Rat.neg_divInt_neg,aCH (by omega) (by simpa using hg)]
  by_cases h1:-q=1
  ·rw [dT h1,if_pos h1];rfl
  ·rw [dF h1,if_neg h1];rfl
 ·rw [dF h]
  simp only [dS,zP,oB]
  rw [aCH (by omega) hg]
  by_cases h1:q=1
  ·rw [dT h1,if_pos h1];rfl
  ·rw [dF h1,if_neg h1];rfl
theorem aDH {p q:Int} (hq:q≠0):∃a b:Int,∃g:Nat,Int.gcd p q=g∧0<g∧p=a*g∧q=b*g∧Int.gcd a b=1∧b≠0∧p/(g:Int)=a∧q/(g:Int)=b:=by
 have hg:0<Int.gcd p q:=Int.gcd_pos_of_ne_zero_right p hq
 obtain⟨a,ha⟩:=Int.gcd_dvd_left (a:=p) (b:=q)
 obtain⟨b,hb⟩:=Int.gcd_dvd_right (a:=p) (b:=q)
 have hgz:((Int.gcd p q:Nat):Int)≠0:=by omega
 have q1:p/((Int.gcd p q:Nat):Int)=a:=by
  have:((Int.gcd p q:Nat):Int)*a/((Int.gcd p q:Nat):Int)=a:=Int.mul_ediv_cancel_left _ hgz
  rwa [←ha] at this
 have q2:q/((Int.gcd p q:Nat):Int)=b:=by
  have:((Int.gcd p q:Nat):Int)*b/((Int.gcd p q:Nat):Int)=b:=Int.mul_ediv_cancel_left _ hgz
  rwa [←hb] at this
 refine⟨a,b,Int.gcd p q,rfl,hg,by rw [Int.mul_comm];exact ha,by rw [Int.mul_comm];exact hb,?_,?_,q1,q2⟩
 ·have h:=Int.gcd_mul_left (Int.gcd p q) a b
  rw [←ha,←hb] at h
  simp only [Int.natAbs_natCast] at h
  have:Int.gcd p q*1=Int.gcd p q*Int.gcd a b:=by omega
  exact(Nat.eq_of_mul_eq_mul_left hg this).symm
 ·intro e;rw [e] at hb;simp at hb;exact hq hb
theorem yT:Qr 0=⟨⟨false,[]⟩,⟨false,[]⟩⟩:=Qr0
theorem aIE {p q:Int} (hq:q≠0):dl (Int.gcd p q)≤dl q.natAbs:=qD (Nat.le_of_dvd (by omega) (Nat.gcd_dvd_right _ _))
theorem aBm {p q:Int} (hq:q≠0) (hp1:dl p.natAbs≤20000000000) (hq1:dl q.natAbs≤20000000000):Ev (fun K=>jP K (Z p) (Z q)) (Qr (p/. q)):=by
 unfold jP
 simp only [aAV,dF hq,dS]
 by_cases hp:p=0
 ·subst hp
  simp only [Rat.zero_divInt,yT]
  exact Ev.pure _
 ·simp only [dF hp,dS]
  obtain⟨a,b,g,h1,h2,h3,h4,h5,h6,h7,h8⟩:=aDH (p:=p) hq
  have hgl:=aIE (p:=p) hq
  rw [h1] at hgl
  refine Ev.bind (aGw (by omega) (by omega)) ?_
  rw [h1]
  simp only [zP,oB]
  have he:p/. q=a/. b:=by
   rw [h3,h4]
   exact Rat.divInt_mul_right (by omega)
  by_cases hg:g=1
  ·have e:(!decide ((g:Int)=1))=false:=by rw [dT (by omega)];rfl
   simp only [e,dS]
   rw [y0 hq (by rw [h1];exact hg)]
   exact Ev.pure _
  ·have e:(!decide ((g:Int)=1))=true:=by rw [dF (by omega)];rfl
   simp only [e,d8]
   refine Ev.bind (aHe (by omega) (by omega) (by simp;omega)) (Ev.bind (aHe (by omega) (by omega) (by simp;omega)) ?_)
   simp only [h7,h8]
   rw [y0 h6 h5,he]
   exact Ev.pure _
theorem aHE (p:Int):Ev (fun K=>jP K (Z p) (Z 0)) (Qr 0):=by
 unfold jP
 simp only [aAV,yT]
 exact Ev.pure _
theorem aBW {p q:Int} (hq:q≠0) (hp1:dl p.natAbs≤20000000000) (hq1:dl q.natAbs≤20000000000):Ev (fun K=>iF K (Z p) (Z q)) (Qr (p/. q)):=by
 unfold iF
 simp only [aAV,dF hq,dS]
 by_cases hp:p=0
 ·subst hp
  simp only [Rat.zero_divInt,yT]
  exact Ev.pure _
 ·simp only [dF hp,dS]
  obtain⟨a,b,g,h1,h2,h3,h4,h5,h6,h7,h8⟩:=aDH (p:=p) hq
  have hgl:=aIE (p:=p) hq
  rw [h1] at hgl
  have hal:dl a.natAbs≤dl p.natAbs:=qD (by
   rw [h3,Int.natAbs_mul,Int.natAbs_natCast]
   exact Nat.le_mul_of_pos_right _ h2)
  have hbl:dl b.natAbs≤dl q.natAbs:=qD (by
   rw [h4,Int.natAbs_mul,Int.natAbs_natCast]
   exact Nat.le_mul_of_pos_right _ h2)
  refine Ev.bind (aFQ (by omega) (by omega)) ?_
  rw [h1]
  have he:p/. q=a/. b:=by
   rw [h3,h4]
   exact Rat.divInt_mul_right (by omega)
  refine Ev.bind (aCF (by omega) (by omega) (by simp;omega)) (Ev.bind (aCF (by omega) (by omega) (by simp;omega)) ?_)
  simp only [h7,h8,sR]
  rw [he]
  by_cases hb:b<0
  ·simp only [dT hb,d8]
   refine Ev.bind (aCy a (by omega)) (Ev.bind (aCy b (by omega)) ?_)
   simp only [aA5,oB]
   rw [←Rat.neg_divInt_neg,aCH (by omega) (by simpa using h5)]
   by_cases h9:-b=1
   ·simp only [dT h9,if_pos h9,d8];exact Ev.pure _
   ·simp only [dF h9,if_neg h9,dS];exact Ev.pure _
  ·simp only [dF hb,dS,aA5,oB]
   rw [aCH (by omega) h5]
   by_cases h9:b=1
   ·simp only [dT h9,if_pos h9,d8];exact Ev.pure _
   ·simp only [dF h9,if_neg h9,dS];exact Ev.pure _
theorem aF3 (p:Int):Ev (fun K=>iF K (Z p) (Z 0)) (Qr 0):=by
 unfold iF
 simp only [aAV,yT]
 exact Ev.pure _
theorem Qp (a:Rat):(Qr a).p=Z a.num:=by rw [aAM]
theorem Qq (a:Rat):(Qr a).q=if a.den=1 then⟨false,[]⟩ else Z a.den:=by rw [aAM]
theorem aEq (a:Rat):(((Qr a).q.d.length:Int)==0)=decide (a.den=1):=by
 rw [Qq]
 by_cases h:a.den=1
 ·rw [if_pos h,dT h];rfl
 ·rw [if_neg h,dF h,aAV,dF]
  have:=a.den_nz
  omega
theorem aK5 {a b:Rat} (h:Qr a=Qr b):a=b:=by
 have h1:Z a.num=Z b.num:=by rw [←Qp,←Qp,h]
 have h2:=congrArg cB.q h
 rw [Qq,Qq] at h2
 have h3:=aGB h1
 have h4:a.den=b.den:=by
  by_cases ha:a.den=1
  ·by_cases hb:b.den=1
   ·omega
   ·rw [if_pos ha,if_neg hb,←Z0] at h2
    have:=aGB h2
    have:=b.den_nz
    omega
  ·by_cases hb:b.den=1
   ·rw [if_neg ha,if_pos hb,←Z0] at h2
    have:=aGB h2
    have:=a.den_nz
    omega
   ·rw [if_neg ha,if_neg hb] at h2
    have:=aGB h2
    omega
 exact Rat.ext h3 h4
theorem aBx (a:Rat):fD (Qr a)=some (Z a.den):=by
 unfold fD aAh
 rw [aEq]
 by_cases h:a.den=1
 ·rw [dT h,d8,aCT (by omega),oB,oB,h];rfl
 ·rw [dF h,dS,Qq,if_neg h]
theorem xW (a:Rat):Ev (fun K=>gX K (Qr a)) (Z a.den):=by
 unfold gX
 rw [aEq]
 by_cases h:a.den=1
 ·simp only [dT h,d8]
  rw [h]
  exact Ev.bind (yS (by omega)) (Ev.pure _)
 ·simp only [dF h,dS]
  rw [Qq,if_neg h]
  exact Ev.pure _
theorem uI {a:Rat} (h:qs a=true):dl a.num.natAbs≤40000000∧dl a.den≤40000000:=by
 unfold qs at h
 simp only [Bool.and_eq_true,Nat.ble_eq] at h
 have h1:=aI1 a.num.natAbs
 have h2:=aI1 a.den
 omega
theorem aEr (a b:Rat):a+b=(a.num*b.den+b.num*a.den)/. (a.den*b.den):=by
 have ha:=a.den_nz
 have hb:=b.den_nz
 conv=>lhs;rw [←Rat.num_divInt_den a,←Rat.num_divInt_den b]
 exact Rat.divInt_add_divInt _ _ (by omega) (by omega)
theorem aC6 (a b:Rat):a*b=(a.num*b.num)/. (a.den*b.den):=by
 conv=>lhs;rw [←Rat.num_divInt_den a,←Rat.num_divInt_den b]
 exact Rat.divInt_mul_divInt _ _
theorem aI3 (n:Int):Qr (n/. 1)=⟨Z n,⟨false,[]⟩⟩:=by
 rw [aCH (by omega) (by simp)];rfl
theorem aAd {a b:Rat} (ha:qs a=true) (hb:qs b=true):dl (a.num*b.den).natAbs≤80000000∧dl (b.num*a.den).natAbs≤80000000∧dl (a.num*b.den+b.num*a.den).natAbs≤80000001∧dl ((a.den:Int)*b.den).natAbs≤80000000∧dl (a.num*b.num).natAbs≤80000000∧((a.den:Int)*b.den)≠0:=by
 obtain⟨a1,a2⟩:=uI ha
 obtain⟨b1,b2⟩:=uI hb
 have m1:=aCw a.num.natAbs b.den
 have m2:=aCw b.num.natAbs a.den
 have m3:=aCw a.den b.den
 have m4:=aCw a.num.natAbs b.num.natAbs
 have e1:(a.num*b.den).natAbs=a.num.natAbs*b.den:=by rw [Int.natAbs_mul,Int.natAbs_natCast]
 have e2:(b.num*a.den).natAbs=b.num.natAbs*a.den:=by rw [Int.natAbs_mul,Int.natAbs_natCast]
 have e3:((a.den:Int)*b.den).natAbs=a.den*b.den:=by rw [Int.natAbs_mul,Int.natAbs_natCast,Int.natAbs_natCast]
 have e4:(a.num*b.num).natAbs=a.num.natAbs*b.num.natAbs:=Int.natAbs_mul _ _
 have hs:dl (a.num*b.den+b.num*a.den).natAbs≤80000001:=by
  have h1:dl ((a.num*b.den).natAbs+(b.num*a.den).natAbs)≤80000000+1:=aKL (by rw [e1];omega) (by rw [e2];omega)
  exact Nat.le_trans (qD (Int.natAbs_add_le _ _)) h1
 refine⟨by rw [e1];omega,by rw [e2];omega,hs,by rw [e3];omega,by rw [e4];omega,?_⟩
 have h1:=a.den_nz
 have h2:=b.den_nz
 exact Int.mul_ne_zero (by omega) (by omega)
theorem aGH {a b:Rat} (ha:qs a=true) (hb:qs b=true):Ev (fun K=>xL K (Qr a) (Qr b)) (Qr (a+b)):=by
 obtain⟨a1,a2⟩:=uI ha
 obtain⟨b1,b2⟩:=uI hb
 obtain⟨c1,c2,c3,c4,c5,c6⟩:=aAd ha hb
 have key:Ev (fun K=>(fD (Qr a)).bind fun v12=>(fD (Qr b)).bind fun v14=>(dH K (Z a.num) v14).bind fun v18=>(dH K (Z b.num) v12).bind fun v20=>(mW K v18 v20).bind fun v22=>(dH K v12 v14).bind fun v24=>(jP K v22 v24).bind fun v26=>some v26) (Qr (a+b)):=by
  simp only [aBx,oB]
  refine Ev.bind (w5 (by simp;omega)) (Ev.bind (w5 (by simp;omega)) (Ev.bind (aGL (by omega) (by omega)) (Ev.bind (w5 (by simp;omega)) (Ev.bind (aBm c6 (by omega) (by omega)) ?_))))
  rw [←aEr]
  exact Ev.pure _
 have key2:Ev (fun K=>bif decide (a.num=0) then some (Qr b) else bif decide (b.num=0) then some (Qr a) else(fD (Qr a)).bind fun v12=>(fD (Qr b)).bind fun v14=>(dH K (Z a.num) v14).bind fun v18=>(dH K (Z b.num) v12).bind fun v20=>(mW K v18 v20).bind fun v22=>(dH K v12 v14).bind fun v24=>(jP K v22 v24).bind fun v26=>some v26) (Qr (a+b)):=by
  by_cases h1:a.num=0
  ·simp only [dT h1,d8]
   rw [Rat.num_eq_zero.1 h1,Rat.zero_add]
   exact Ev.pure _
  ·simp only [dF h1,dS]
   by_cases h2:b.num=0
   ·simp only [dT h2,d8]
    rw [Rat.num_eq_zero.1 h2,Rat.add_zero]
    exact Ev.pure _
   ·simp only [dF h2,dS]
    exact key
 unfold xL
 simp only [aEq,Qp,aAV]
 by_cases h1:a.den=1
 ·simp only [dT h1,d8]
  by_cases h2:b.den=1
  ·simp only [dT h2,d8]
   refine Ev.bind (aGL (by omega) (by omega)) ?_
   have:a+b=(a.num+b.num)/. 1:=by
    rw [aEr,h1,h2];simp
   rw [this,aI3]
   exact Ev.pure _
  ·simp only [dF h2,dS]
   exact key2
 ·simp only [dF h1,dS]
  exact key2
theorem aD7 {n:Int} {d e:Nat} (h:(n/. (d:Int)).den=e) (hd:d≠0):e∣d:=by
 rw [Rat.den_divInt,if_neg (by omega)] at h
 rw [←h]
 simp only [Int.natAbs_natCast]
 exact Nat.div_dvd_of_dvd (by rw [Int.gcd_comm];exact Nat.gcd_dvd_right _ _)
theorem aD5 {n:Int} {d:Nat} (hd:d≠0):(n/. (d:Int)).num.natAbs∣n.natAbs:=by
 rw [Rat.num_divInt,Int.sign_eq_one_of_pos (by omega),Int.one_mul]
 rw [Int.gcd_comm]
 obtain⟨c,hc⟩:=Int.gcd_dvd_left (a:=n) (b:=(d:Int))
 have hg:0<Int.gcd n d:=Int.gcd_pos_of_ne_zero_right n (by omega)
 generalize Int.gcd n d=g at *
 have e:n/(g:Int)=c:=by rw [hc];exact Int.mul_ediv_cancel_left _ (by omega)
 rw [e,hc,Int.natAbs_mul]
 exact Nat.dvd_mul_left _ _
theorem aJV {a b:Rat}:Int.gcd ((a.num/. b.den).num*(b.num/. a.den).num) (((a.num/. b.den).den:Int)*(b.num/. a.den).den)=1:=by
 have ha:=a.den_nz
 have hb:=b.den_nz
 have h1:=(a.num/. b.den).reduced
 have h2:=(b.num/. a.den).reduced
 have ra:=a.reduced
 have rb:=b.reduced
 have n1:(a.num/. (b.den:Int)).num.natAbs∣a.num.natAbs:=aD5 hb
 have n2:(b.num/. (a.den:Int)).num.natAbs∣b.num.natAbs:=aD5 ha
 have d1:(a.num/. (b.den:Int)).den∣b.den:=aD7 rfl hb
 have d2:(b.num/. (a.den:Int)).den∣a.den:=aD7 rfl ha
 have x1:Nat.Coprime (a.num/. (b.den:Int)).num.natAbs (b.num/. (a.den:Int)).den:=Nat.Coprime.coprime_dvd_left n1 (Nat.Coprime.coprime_dvd_right d2 ra)
 have x2:Nat.Coprime (b.num/. (a.den:Int)).num.natAbs (a.num/. (b.den:Int)).den:=Nat.Coprime.coprime_dvd_left n2 (Nat.Coprime.coprime_dvd_right d1 rb)
 show Nat.gcd _ _=1
 rw [Int.natAbs_mul,Int.natAbs_mul,Int.natAbs_natCast,Int.natAbs_natCast]
 exact Nat.Coprime.mul_left (Nat.Coprime.mul_right h1 x1) (Nat.Coprime.mul_right x2 h2)
theorem aHj {n:Int} {d:Nat} (hd:d≠0):dl (n/. (d:Int)).num.natAbs≤dl n.natAbs∧dl (n/. (d:Int)).den≤dl d:=by
 constructor
 ·by_cases h:n=0
  ·subst h;rw [Rat.zero_divInt];exact Nat.le_refl _
  ·exact qD (Nat.le_of_dvd (by omega) (aD5 hd))
 ·exact qD (Nat.le_of_dvd (by omega) (aD7 rfl hd))
theorem aHz {a b:Rat} (ha:qs a=true) (hb:qs b=true):Ev (fun K=>(fD (Qr b)).bind fun v12=>(jP K (Z a.num) v12).bind fun v14=>(fD (Qr a)).bind fun v16=>(jP K (Z b.num) v16).bind fun v18=>(dH K v14.p v18.p).bind fun v22=>(fD v14).bind fun v24=>(fD v18).bind fun v26=>(dH K v24 v26).bind fun v28=>(m5 v22 v28).bind fun v30=>some v30) (Qr (a*b)):=by
 obtain⟨a1,a2⟩:=uI ha
 obtain⟨b1,b2⟩:=uI hb
 have ha0:=a.den_nz
 have hb0:=b.den_nz
 have p1:=aHj (n:=a.num) hb0
 have p2:=aHj (n:=b.num) ha0
 simp only [aBx,oB]
 refine Ev.bind (aBm (by omega) (by omega) (by simp;omega)) (Ev.bind (aBm (by omega) (by omega) (by simp;omega)) ?_)
 simp only [Qp]
 refine Ev.bind (w5 (by omega)) ?_
 simp only [aBx,oB]
 refine Ev.bind (w5 (by rw [Int.natAbs_natCast,Int.natAbs_natCast];omega)) ?_
 have e1:=(a.num/. (b.den:Int)).den_nz
 have e2:=(b.num/. (a.den:Int)).den_nz
 rw [y0 (Int.mul_ne_zero (by omega) (by omega)) aJV,oB,←aC6]
 have:a.num/. (b.den:Int)*(b.num/. (a.den:Int))=a*b:=by
  rw [Rat.divInt_mul_divInt,aC6,Int.mul_comm (b.den:Int)]
 rw [this]
 exact Ev.pure _
theorem aGR {a b:Rat} (ha:qs a=true) (hb:qs b=true):Ev (fun K=>xK K (Qr a) (Qr b)) (Qr (a*b)):=by
 obtain⟨a1,a2⟩:=uI ha
 obtain⟨b1,b2⟩:=uI hb
 have key:=aHz ha hb
 unfold xK
 simp only [aEq,Qp,aAV]
 by_cases h1:a.num=0
 ·simp only [dT h1,d8]
  rw [Rat.num_eq_zero.1 h1,Rat.zero_mul,yT]
  exact Ev.pure _
 ·simp only [dF h1,dS]
  by_cases h2:b.num=0
  ·simp only [dT h2,d8]
   rw [Rat.num_eq_zero.1 h2,Rat.mul_zero,yT]
   exact Ev.pure _
  ·simp only [dF h2,dS]
   by_cases h3:a.den=1
   ·simp only [dT h3,d8]
    by_cases h4:b.den=1
    ·simp only [dT h4,d8]
     refine Ev.bind (w5 (by omega)) ?_
     have:a*b=(a.num*b.num)/. 1:=by rw [aC6,h3,h4];rfl
     rw [this,aI3]
     exact Ev.pure _
    ·simp only [dF h4,dS]
     exact key
   ·simp only [dF h3,dS]
    exact key
theorem aG7 (a:Rat):xN (Qr a)=some (Qr (-a)):=by
 unfold xN
 rw [Qp,aGu,oB]
 congr 1
 rw [aAM (-a),Rat.neg_num,Rat.neg_den,Qq]
theorem aIh {a:Rat} (h:qs a=true):qs (-a)=true:=by
 unfold qs at *;rw [Rat.neg_num,Rat.neg_den,Int.natAbs_neg];exact h
theorem aJJ {a b:Rat} (ha:qs a=true) (hb:qs b=true):Ev (fun K=>aAe K (Qr a) (Qr b)) (Qr (a-b)):=by
 unfold aAe
 simp only [aG7,oB]
 refine Ev.bind (aGH ha (aIh hb)) ?_
 rw [Rat.sub_eq_add_neg]
 exact Ev.pure _
theorem aEX (a:Rat):u6 (Qr a)=some a.num.sign:=by
 unfold u6
 rw [Qp,aI5];rfl
theorem aEl {b:Rat} (h:b.num≠0):b⁻¹=(b.den:Int)/. b.num:=Rat.inv_def b
theorem aK9 {b:Rat} (hb:qs b=true):qs (b⁻¹)=true:=by
 by_cases h:b.num=0
 ·rw [Rat.num_eq_zero.1 h,Rat.inv_zero];decide
 ·have hc:Nat.gcd b.num.natAbs b.den=1:=b.reduced
  rw [aEl h]
  unfold qs at *
  have e1:((b.den:Int)/. b.num).num.natAbs=b.den:=by
   rw [Rat.num_divInt]
   have:Int.gcd b.num b.den=1:=hc
   rw [this]
   simp only [Int.natCast_one,Int.ediv_one,Int.natAbs_mul,Int.natAbs_natCast,Int.natAbs_sign_of_ne_zero h,Nat.one_mul]
  have e2:((b.den:Int)/. b.num).den=b.num.natAbs:=by
   rw [Rat.den_divInt,if_neg h]
   have:Int.gcd b.num b.den=1:=hc
   rw [this,Nat.div_one]
  rw [e1,e2,Bool.and_comm]
  exact hb
theorem aKc {a b:Rat} (ha:qs a=true) (hb:qs b=true):Ev (fun K=>aAg K (Qr a) (Qr b)) (Qr (a/b)):=by
 unfold aAg
 simp only [Qp,aAV]
 by_cases h:b.num=0
 ·simp only [dT h,d8]
  rw [Rat.num_eq_zero.1 h,Rat.div_def,Rat.inv_zero,Rat.mul_zero,yT]
  exact Ev.pure _
 ·simp only [dF h,dS,aBx,oB]
  have hc:Int.gcd (b.den:Int) b.num=1:=by rw [Int.gcd_comm];exact b.reduced
  rw [y0 h hc,←aEl h]
  simp only [oB]
  refine Ev.bind (aGR ha (aK9 hb)) ?_
  rw [Rat.div_def]
  exact Ev.pure _
theorem aFh (x y:List Int) (hl:x.length=y.length) (hL:x.length≤9000000000000):∀(t i:Nat),i+t=x.length→∀K k,t<k→gJ K x y k (i:Int)=some (if x.drop i=y.drop i then .go () else .ret false)
 |0,i,hi,K,k,hk=>by
  obtain⟨k',rfl,_⟩:=cU hk
  have:i=x.length:=by omega
  subst this
  simp only [gJ,dF (show¬(x.length:Int)<(x.length:Int) by omega),dS]
  rw [if_pos]
  rw [List.drop_of_length_le (Nat.le_refl _),List.drop_of_length_le (by omega)]
 |t+1,i,hi,K,k,hk=>by
  obtain⟨k',rfl,_⟩:=cU hk
  have e1:decide ((i:Int)<(x.length:Int))=true:=dT (by omega)
  have e2:=dU (xs:=x) (i:=i) (by omega)
  have e3:=dU (xs:=y) (i:=i) (by omega)
  have e5:bW ((i:Int)+1)=some ((i+1:Nat):Int):=yB (m:=0) (by omega) (by omega)
  have dx:x.drop i=x.getD i 0::x.drop (i+1):=by
   rw [List.drop_eq_getElem_cons (by omega)];simp [List.getD_eq_getElem?_getD,show i<x.length by omega]
  have dy:y.drop i=y.getD i 0::y.drop (i+1):=by
   rw [List.drop_eq_getElem_cons (by omega)];simp [List.getD_eq_getElem?_getD,show i<y.length by omega]
  by_cases h:x.getD i 0=y.getD i 0
  ·have ih:=aFh x y hl hL t (i+1) (by omega) K k' (by omega)
   simp only [gJ,e1,e2,e3,e5,nF h,d8,dS,oB,ih]
   by_cases hd:x.drop (i+1)=y.drop (i+1)
   ·rw [if_pos hd,if_pos (by rw [dx,dy,h,hd])]
   ·rw [if_neg hd,if_neg (by rw [dx,dy];intro e;exact hd (List.cons.inj e).2)]
  ·simp only [gJ,e1,e2,e3,nT h,d8,oB]
   rw [if_neg (by rw [dx,dy];intro e;exact h (List.cons.inj e).1)]
theorem aHo (x y:List Int) (hL:x.length≤9000000000000):Ev (fun K=>oN K x y) (decide (x=y)):=by
 refine⟨x.length+1,fun K hK=>?_⟩
 unfold oN
 by_cases h2:x.length=y.length
 ·have h:=aFh x y h2 hL x.length 0 (by omega) K K (by omega)
  simp only [Int.natCast_zero,List.drop_zero] at h
  simp only [nF (show(x.length:Int)=(y.length:Int) by omega),dS,h,oB]
  by_cases h3:x=y
  ·rw [if_pos h3,dT h3];rfl
  ·rw [if_neg h3,dF h3]
 ·simp only [nT (show(x.length:Int)≠(y.length:Int) by omega),d8]
  rw [dF (by intro e;subst e;exact h2 rfl)]
theorem aD2 (x y:aZ) (hL:x.d.length≤9000000000000):Ev (fun K=>s8 K x y) (decide (x=y)):=by
 unfold s8
 by_cases h1:x.neg=y.neg
 ·have e1:(x.neg==y.neg)=true:=beq_iff_eq.2 h1
  simp only [e1,d8]
  refine Ev.bind (aHo _ _ hL) ?_
  have:decide (x.d=y.d)=decide (x=y):=by
   by_cases h3:x.d=y.d
   ·rw [dT h3,dT (by cases x;cases y;simp_all)]
   ·rw [dF h3,dF (by intro e;subst e;exact h3 rfl)]
  rw [this]
  exact Ev.pure _
 ·have e1:(x.neg==y.neg)=false:=beq_false_of_ne h1
  simp only [e1,dS]
  rw [dF (by intro e;subst e;exact h1 rfl)]
  exact Ev.pure _
theorem aKo {a:Rat} (h:qs a=true):(Qr a).p.d.length≤9000000000000∧(Qr a).q.d.length≤9000000000000:=by
 obtain⟨a1,a2⟩:=uI h
 rw [Qp,Qq,rE]
 refine⟨by omega,?_⟩
 by_cases h:a.den=1
 ·rw [if_pos h];simp
 ·rw [if_neg h,rE];simp;omega
theorem aE5 (a b:Rat):(bif decide ((Qr a).p=(Qr b).p) then decide ((Qr a).q=(Qr b).q) else false)=decide (a=b):=by
 by_cases h:a=b
 ·subst h;simp
 ·rw [dF h]
  by_cases h1:(Qr a).p=(Qr b).p
  ·rw [dT h1,d8,dF]
   intro h2
   exact h (aK5 (by cases hx:Qr a;cases hy:Qr b;rw [hx,hy] at h1 h2;simp_all))
  ·rw [dF h1];rfl
theorem aJm {a b:Rat} (ha:qs a=true) (hb:qs b=true):Ev (fun K=>yX K (Qr a) (Qr b)) (decide (a=b)):=by
 obtain⟨l1,l2⟩:=aKo ha
 unfold yX
 refine Ev.bind (aD2 _ _ l1) ?_
 rw [←aE5]
 by_cases h:(Qr a).p=(Qr b).p
 ·simp only [dT h,d8]
  exact Ev.bind (aD2 _ _ l2) (Ev.pure _)
 ·simp only [dF h,dS]
  exact Ev.pure _
theorem aHq {a b:Rat} (ha:qs a=true) (hb:qs b=true):Ev (fun K=>rN K (Qr a) (Qr b)) (decide (a=b)):=by
 obtain⟨l1,l2⟩:=aKo ha
 unfold rN
 refine Ev.bind (aDY _ _ l1) ?_
 rw [←aE5]
 by_cases h:(Qr a).p=(Qr b).p
 ·simp only [dT h,d8]
  exact Ev.bind (aDY _ _ l2) (Ev.pure _)
 ·simp only [dF h,dS]
  exact Ev.pure _
theorem aFE {a b:Rat} (ha:qs a=true) (hb:qs b=true):Ev (fun K=>p6 K (Qr a) (Qr b)) (Qr (a+b)):=by
 obtain⟨a1,a2⟩:=uI ha
 obtain⟨b1,b2⟩:=uI hb
 obtain⟨c1,c2,c3,c4,c5,c6⟩:=aAd ha hb
 unfold p6
 refine Ev.bind (xW b) ?_
 simp only [Qp]
 refine Ev.bind (xJ (by simp;omega)) (Ev.bind (xW a) (Ev.bind (xJ (by simp;omega)) (Ev.bind (aFv (by omega) (by omega)) (Ev.bind (xW a) (Ev.bind (xW b) (Ev.bind (xJ (by simp;omega)) (Ev.bind (aBW c6 (by omega) (by omega)) ?_)))))))
 rw [←aEr]
 exact Ev.pure _
theorem aIe {a b:Rat} (ha:qs a=true) (hb:qs b=true):Ev (fun K=>sJ K (Qr a) (Qr b)) (Qr (a*b)):=by
 obtain⟨a1,a2⟩:=uI ha
 obtain⟨b1,b2⟩:=uI hb
 obtain⟨c1,c2,c3,c4,c5,c6⟩:=aAd ha hb
 unfold sJ
 simp only [Qp]
 refine Ev.bind (xJ (by omega)) (Ev.bind (xW a) (Ev.bind (xW b) (Ev.bind (xJ (by simp;omega)) (Ev.bind (aBW c6 (by omega) (by omega)) ?_))))
 rw [←aC6]
 exact Ev.pure _
theorem aIm {a:Rat} (ha:qs a=true):Ev (fun K=>p9 K (Qr a)) (Qr (-a)):=by
 obtain⟨a1,a2⟩:=uI ha
 unfold p9
 rw [Qp]
 refine Ev.bind (aCy _ (by omega)) ?_
 have:(⟨Z (-a.num),(Qr a).q⟩:cB)=Qr (-a):=by rw [aAM (-a),Rat.neg_num,Rat.neg_den,Qq]
 rw [this]
 exact Ev.pure _
theorem aIa {a b:Rat} (ha:qs a=true) (hb:qs b=true):Ev (fun K=>sG K (Qr a) (Qr b)) (Qr (a-b)):=by
 unfold sG
 refine Ev.bind (aIm hb) (Ev.bind (aFE ha (aIh hb)) ?_)
 rw [Rat.sub_eq_add_neg]
 exact Ev.pure _
theorem aHA {a:Rat} (ha:qs a=true):Ev (fun K=>rU K (Qr a)) a.num.sign:=by
 obtain⟨a1,a2⟩:=uI ha
 unfold rU
 rw [Qp]
 exact Ev.bind (aHB (by omega)) (Ev.pure _)
theorem aKG {p q:Int} (hp:-9223372036854775808≤p∧p≤9223372036854775807) (hq:-9223372036854775808≤q∧q≤9223372036854775807):Ev (fun K=>aA6 K p q) (Qr ((p:Rat)/q)):=by
 have hs:∀n:Int,-9223372036854775808≤n∧n≤9223372036854775807→dl n.natAbs≤3:=fun n h=>aAF (by
  have:PB 3=1000000000000000000000000000:=by decide
  omega)
 have h1:=hs p hp
 have h2:=hs q hq
 unfold aA6
 simp only [aCT hp,aCT hq,oB]
 rw [←Rat.divInt_eq_div]
 by_cases h:q=0
 ·subst h
  rw [Rat.divInt_zero]
  exact Ev.bind (aHE p) (Ev.pure _)
 ·exact Ev.bind (aBm h (by omega) (by omega)) (Ev.pure _)
theorem aJM {p q:Int} (hp:-9223372036854775808≤p∧p≤9223372036854775807) (hq:-9223372036854775808≤q∧q≤9223372036854775807):Ev (fun K=>s0 K p q) (Qr ((p:Rat)/q)):=by
 have hs:∀n:Int,-9223372036854775808≤n∧n≤9223372036854775807→dl n.natAbs≤3:=fun n h=>aAF (by
  have:PB 3=1000000000000000000000000000:=by decide
  omega)
 have h1:=hs p hp
 have h2:=hs q hq
 unfold s0
 refine Ev.bind (yS hp) (Ev.bind (yS hq) ?_)
 rw [←Rat.divInt_eq_div]
 by_cases h:q=0
 ·subst h
  rw [Rat.divInt_zero]
  exact Ev.bind (aF3 p) (Ev.pure _)
 ·exact Ev.bind (aBW h (by omega) (by omega)) (Ev.pure _)
theorem Ev.get {α:Type} {f:Nat→Option α} {r:α} (h:Ev f r):∃K,f K=some r:=let ⟨N,h⟩:=h;⟨N,h N (Nat.le_refl _)⟩
theorem xF {α:Type} {a b:Rat} {r s:α} (h:(bif qs a&&qs b then some s else none)=some r):qs a=true∧qs b=true∧s=r:=by
 cases ha:qs a<;>cases hb:qs b<;>rw [ha,hb] at h<;>simp at h
 exact⟨rfl,rfl,h⟩
theorem aCB {α:Type} {a:Rat} {r s:α} (h:(bif qs a then some s else none)=some r):qs a=true∧s=r:=by
 cases ha:qs a<;>rw [ha] at h<;>simp at h
 exact⟨rfl,h⟩
theorem aKt {p q:Int} {r:Rat} (h:y5 p q=some r):(-9223372036854775808≤p∧p≤9223372036854775807)∧(-9223372036854775808≤q∧q≤9223372036854775807)∧r=(p:Rat)/q:=by
 unfold y5 at h
 obtain⟨p',h1,k1⟩:=aP h
 obtain⟨q',h2,k2⟩:=aP k1
 obtain⟨e1,e2⟩:=vZ h1
 obtain⟨e3,e4⟩:=vZ h2
 rw [e1,e3] at k2
 exact⟨e2,e4,(Option.some.inj k2).symm⟩
theorem uZ {a b r:Rat} (h:aAY a b=some r):Ct Tryz.prog aHr [.va (eQ a),.va (eQ b)] (.va (eQ r)):=by
 obtain⟨h1,h2,rfl⟩:=xF h
 obtain⟨K,hK⟩:=(aGH h1 h2).get
 exact aCD hK
theorem aDm {a b r:Rat} (h:aDo a b=some r):Ct Tryz.prog aHs [.va (eQ a),.va (eQ b)] (.va (eQ r)):=by
 obtain⟨h1,h2,rfl⟩:=xF h
 obtain⟨K,hK⟩:=(aJJ h1 h2).get
 exact aGg hK
theorem rP {a b r:Rat} (h:yR a b=some r):Ct Tryz.prog aHw [.va (eQ a),.va (eQ b)] (.va (eQ r)):=by
 obtain⟨h1,h2,rfl⟩:=xF h
 obtain⟨K,hK⟩:=(aGR h1 h2).get
 exact aCA hK
theorem aAQ {a b r:Rat} (h:aKf a b=some r):Ct Tryz.prog aHY [.va (eQ a),.va (eQ b)] (.va (eQ r)):=by
 obtain⟨h1,h2,rfl⟩:=xF h
 obtain⟨K,hK⟩:=(aKc h1 h2).get
 exact aF4 hK
theorem qM {a r:Rat} (h:aBw a=some r):Ct Tryz.prog aHK [.va (eQ a)] (.va (eQ r)):=by
 obtain⟨h1,rfl⟩:=aCB h
 exact aCs (aG7 a)
theorem iM {a:Rat} {r:Int} (h:vU a=some r):Ct Tryz.prog aGk [.va (eQ a)] (.vc (pI .i64 r)):=by
 obtain⟨h1,rfl⟩:=aCB h
 exact zR (aEX a)
theorem jN {a b:Rat} {r:Bool} (h:wL a b=some r):Ct Tryz.prog aGi [.va (eQ a),.va (eQ b)] (.vc (pB r)):=by
 obtain⟨h1,h2,rfl⟩:=xF h
 obtain⟨K,hK⟩:=(aJm h1 h2).get
 exact aFy hK
theorem xS {p q:Int} {r:Rat} (h:y5 p q=some r):Ct Tryz.prog aIK [.vc (pI .i64 p),.vc (pI .i64 q)] (.va (eQ r)):=by
 obtain⟨h1,h2,rfl⟩:=aKt h
 obtain⟨K,hK⟩:=(aKG h1 h2).get
 exact aHL hK
theorem oZ {a b r:Rat} (h:aAY a b=some r):Ct Tryz.prog aBy [.va (eQ a),.va (eQ b)] (.va (eQ r)):=by
 obtain⟨h1,h2,rfl⟩:=xF h
 obtain⟨K,hK⟩:=(aFE h1 h2).get
 exact wS hK
theorem rF {a b r:Rat} (h:aDo a b=some r):Ct Tryz.prog aBg [.va (eQ a),.va (eQ b)] (.va (eQ r)):=by
 obtain⟨h1,h2,rfl⟩:=xF h
 obtain⟨K,hK⟩:=(aIa h1 h2).get
 exact aAG hK
theorem mP {a b r:Rat} (h:yR a b=some r):Ct Tryz.prog aBp [.va (eQ a),.va (eQ b)] (.va (eQ r)):=by
 obtain⟨h1,h2,rfl⟩:=xF h
 obtain⟨K,hK⟩:=(aIe h1 h2).get
 exact aAJ hK
theorem l4 {a:Rat} {r:Int} (h:vU a=some r):Ct Tryz.prog aAU [.va (eQ a)] (.vc (pI .i64 r)):=by
 obtain⟨h1,rfl⟩:=aCB h
 obtain⟨K,hK⟩:=(aHA h1).get
 exact aAu hK
theorem aAt {a b:Rat} {r:Bool} (h:wL a b=some r):Ct Tryz.prog aA3 [.va (eQ a),.va (eQ b)] (.vc (pB r)):=by
 obtain⟨h1,h2,rfl⟩:=xF h
 obtain⟨K,hK⟩:=(aHq h1 h2).get
 exact aAr hK
theorem bY {p q:Int} {r:Rat} (h:y5 p q=some r):Ct Tryz.prog aBH [.vc (pI .i64 p),.vc (pI .i64 q)] (.va (eQ r)):=by
 obtain⟨h1,h2,rfl⟩:=aKt h
 obtain⟨K,hK⟩:=(aJM h1 h2).get
 exact aBa hK
end Go.Proofs.YtcjdedkdoagifaaGreat
set_option linter.unusedVariables false
namespace Go.Proofs.YtcjdedkdoagifaaGreat
theorem rdG {α:Type} {xs:List α} {i:Nat} {x:α} (h:xs[i]?=some x):dC xs (i:Int)=some x:=by
 unfold dC
 rw [if_pos (by omega)]
 simpa using h
theorem rdM {α:Type} {xs:List α} {i:Nat} (h:i<xs.length):∃x,x∈xs∧xs[i]?=some x∧dC xs (i:Int)=some x:=
 ⟨xs[i],List.getElem_mem h,List.getElem?_eq_getElem h,rdG (List.getElem?_eq_getElem h)⟩
theorem stG {α:Type} {xs:List α} {i:Nat} {v:α} (h:i<xs.length):qC xs (i:Int) v=some (xs.set i v):=by
 unfold qC
 rw [if_pos (by constructor;omega;simpa using h)]
 simp
def aFS (xs:List Int):Prop:=∀x∈xs,-9223372036854775808≤x∧x≤9223372036854775807
def Bd (n:Nat) (q:Rat):Prop:=q.num.natAbs<2^n∧q.den<2^n
theorem Bd.mono {m n:Nat} {q:Rat} (h:Bd m q) (hn:m≤n):Bd n q:=
 ⟨Nat.lt_of_lt_of_le h.1 (Nat.pow_le_pow_right (by decide) hn),Nat.lt_of_lt_of_le h.2 (Nat.pow_le_pow_right (by decide) hn)⟩
theorem aGG {a n:Nat} (h:a<2^n) (hn:n≤1073741824):a.log2≤1073741824:=by
 by_cases h0:a=0
 ·subst h0;decide
 ·have:=(Nat.log2_lt h0).2 h
  omega
theorem Bd.qs {n:Nat} {q:Rat} (h:Bd n q) (hn:n≤1073741824):qs q=true:=by
 unfold Go.Proofs.YtcjdedkdoagifaaGreat.qs
 rw [Bool.and_eq_true,Nat.ble_eq,Nat.ble_eq]
 exact⟨aGG h.1 hn,aGG h.2 hn⟩
theorem aDt (n:Int) {d:Int} (hd:d≠0):(Rat.divInt n d).num.natAbs≤n.natAbs:=by
 rw [Rat.num_divInt]
 have h:(d.sign*n/((d.gcd n:Nat):Int)).natAbs≤(d.sign*n).natAbs:=Int.natAbs_ediv_le_natAbs _ _
 rw [Int.natAbs_mul,Int.natAbs_sign_of_ne_zero hd,Nat.one_mul] at h
 exact h
theorem aDs (n:Int) {d:Int} (hd:d≠0):(Rat.divInt n d).den≤d.natAbs:=by
 rw [Rat.den_divInt,if_neg hd]
 exact Nat.div_le_self _ _
theorem Bd.divInt {k:Nat} {n d:Int} (hd:d≠0) (h1:n.natAbs<2^k) (h2:d.natAbs<2^k):Bd k (Rat.divInt n d):=
 ⟨Nat.lt_of_le_of_lt (aDt n hd) h1,Nat.lt_of_le_of_lt (aDs n hd) h2⟩
theorem Bd.zero:Bd 1 0:=by constructor<;>decide
theorem aBt {a b m n:Nat} (h1:a<2^m) (h2:b<2^n):a*b<2^(m+n):=by
 rw [Nat.pow_add]
 exact Nat.mul_lt_mul'' h1 h2
theorem Bd.mul {m n:Nat} {a b:Rat} (ha:Bd m a) (hb:Bd n b):Bd (m+n) (a*b):=by
 rw [aC6]
 refine Bd.divInt (Int.mul_ne_zero (by have:=a.den_nz;omega) (by have:=b.den_nz;omega)) ?_ ?_
 ·rw [Int.natAbs_mul];exact aBt ha.1 hb.1
 ·rw [Int.natAbs_mul,Int.natAbs_natCast,Int.natAbs_natCast];exact aBt ha.2 hb.2
theorem Bd.add {m n:Nat} {a b:Rat} (ha:Bd m a) (hb:Bd n b):Bd (m+n+1) (a+b):=by
 rw [aEr]
 have h1:=aBt ha.1 hb.2
 have h2:=aBt hb.1 ha.2
 have h3:=aBt ha.2 hb.2
 rw [Nat.add_comm n m] at h2
 refine Bd.divInt (Int.mul_ne_zero (by have:=a.den_nz;omega) (by have:=b.den_nz;omega)) ?_ ?_
 ·have:=Int.natAbs_add_le (a.num*b.den) (b.num*a.den)
  rw [Int.natAbs_mul,Int.natAbs_mul,Int.natAbs_natCast,Int.natAbs_natCast] at this
  rw [Nat.pow_succ]
  omega
 ·rw [Int.natAbs_mul,Int.natAbs_natCast,Int.natAbs_natCast,Nat.pow_succ];omega
theorem Bd.neg {n:Nat} {a:Rat} (ha:Bd n a):Bd n (-a):=by
 unfold Bd
 rw [Rat.neg_num,Rat.neg_den,Int.natAbs_neg];exact ha
theorem Bd.sub {m n:Nat} {a b:Rat} (ha:Bd m a) (hb:Bd n b):Bd (m+n+1) (a-b):=by
 rw [Rat.sub_eq_add_neg];exact ha.add hb.neg
theorem Bd.inv {n:Nat} {b:Rat} (hb:Bd n b) (hn:1≤n):Bd n b⁻¹:=by
 by_cases h:b.num=0
 ·rw [Rat.num_eq_zero.1 h,Rat.inv_zero];exact Bd.zero.mono hn
 ·rw [aEl h]
  exact Bd.divInt h (by simpa using hb.2) hb.1
theorem Bd.pos {n:Nat} {q:Rat} (h:Bd n q):1≤n:=by
 rcases Nat.eq_zero_or_pos n with h0|h0
 ·subst h0
  have:=h.2
  have:=q.den_nz
  omega
 ·exact h0
theorem vS {m n:Nat} {a b:Rat} (ha:Bd m a) (hb:Bd n b) (hm:m≤1073741824) (hn:n≤1073741824):aAY a b=some (a+b):=by
 unfold aAY;rw [ha.qs hm,hb.qs hn];rfl
theorem aCb {m n:Nat} {a b:Rat} (ha:Bd m a) (hb:Bd n b) (hm:m≤1073741824) (hn:n≤1073741824):aDo a b=some (a-b):=by
 unfold aDo;rw [ha.qs hm,hb.qs hn];rfl
theorem tP {m n:Nat} {a b:Rat} (ha:Bd m a) (hb:Bd n b) (hm:m≤1073741824) (hn:n≤1073741824):yR a b=some (a*b):=by
 unfold yR;rw [ha.qs hm,hb.qs hn];rfl
theorem aH8 {m n:Nat} {a b:Rat} (ha:Bd m a) (hb:Bd n b) (hm:m≤1073741824) (hn:n≤1073741824):wL a b=some (decide (a=b)):=by
 unfold wL;rw [ha.qs hm,hb.qs hn];rfl
theorem aEE {m:Nat} {a:Rat} (ha:Bd m a) (hm:m≤1073741824):aBw a=some (-a):=by
 unfold aBw;rw [ha.qs hm];rfl
theorem sI {m:Nat} {a:Rat} (ha:Bd m a) (hm:m≤1073741824):vU a=some a.num.sign:=by
 unfold vU;rw [ha.qs hm];rfl
theorem aI2 {p q:Int} (hp:-9223372036854775808≤p∧p≤9223372036854775807) (hq:-9223372036854775808≤q∧q≤9223372036854775807):y5 p q=some ((p:Rat)/q):=by
 unfold y5;rw [oA hp,oA hq];rfl
theorem Bd.of {k:Nat} {p q:Int} (hq:q≠0) (h1:p.natAbs<2^k) (h2:q.natAbs<2^k):Bd k ((p:Rat)/q):=by
 rw [←Rat.divInt_eq_div];exact Bd.divInt hq h1 h2
theorem aAN {k:Nat} {p q:Int} (hq:q≠0) (h1:p.natAbs<2^k) (h2:q.natAbs<2^k) (hk:k≤62):∃r,y5 p q=some r∧r=(p:Rat)/q∧Bd k r:=by
 have:2^k≤2^62:=Nat.pow_le_pow_right (by decide) hk
 refine⟨_,aI2 (by omega) (by omega),rfl,Bd.of hq h1 h2⟩
end Go.Proofs.YtcjdedkdoagifaaGreat
set_option linter.unusedVariables false
namespace Go.Proofs.YtcjdedkdoagifaaGreat
open Go.ChangeShapes Go.WideShapes Go.ChangeAt Go.RowKit
inductive AV
 |vi (n:Int)
 |vs (xs:List Int)
 |vb (b:Bool)
inductive AK
 |ki
 |ks
 |kb
def AV.vp:AV→VP
 | .vi n=>.vc (pI .i64 n)
 | .vs xs=>.vc (pS cI xs)
 | .vb x=>.vc (pB x)
def AV.good:AK→AV→Prop
 | .ki,.vi n=>-9223372036854775808≤n∧n≤9223372036854775807
 | .ks,.vs xs=>aFS xs∧xs.length≤z5
 | .kb,.vb _=>True
 |_,_=>False
def AK.ok (P:Program) (t:TypeId):AK→Prop
 | .ki=>P.underlying t=some (.int .i64)
 | .ks=>∃e,P.underlying t=some (.slice e)∧P.underlying e=some (.int .i64)∧P.cellsOf e=1
 | .kb=>P.underlying t=some .bool
def aGU (W:World):pX:=fun b=>W.heap[b]?
theorem aJ5 {H:Type} {enc:TypeId×Value→H} {P:Program} {W:World} {base:Nat} {t:TypeId} {v:Value} {d:DataW H} {p:List MemPlace} {k:AK} (hk:k.ok P t) (hval:Value.okWide P W .any base t v) (h:DataW.Trod enc P W 0 (fun _=>true) true t v d p):
  ∃av:AV,AV.good k av∧av.vp.h (aGU W) v∧∀(W':World) (sp:Nat→Bool),(∀b,b<W.heap.size→W'.heap[b]?=W.heap[b]?)→(∀q∈p,sp q.block=true)→DataW.Trod enc P W' 0 sp true t v d p:=by
 cases k with
 |ki=>
  obtain⟨n,rfl,rfl,rfl,hw⟩:=open_int hk hval h
  exact⟨.vi n,bounds_i64 hw,rfl,fun W' sp _ _=>shut_int hk hw⟩
 |kb=>
  obtain⟨x,rfl,rfl,rfl⟩:=open_bool hk hval h
  exact⟨.vb x,trivial,rfl,fun W' sp _ _=>shut_bool hk x⟩
 |ks=>
  obtain⟨e,ht,he,hc⟩:=hk
  obtain⟨a0,aAV,cap0,rfl⟩:=okWide_slice ht hval
  obtain⟨cU,hf⟩:=h
  rcases open_ints ht he hc hf with⟨h1,h2⟩|⟨a,len,cap,zs,h1,hb,hl,hm,hz,hx,hcell,hw⟩
  ·have h1':Value.slice a0 aAV cap0=.slice none 0 0:=by simpa [Value.cells] using h1
   rw [h1']
   simp only [Prod.mk.injEq] at h2
   obtain⟨rfl,rfl⟩:=h2
   exact⟨.vs [],⟨fun x hx=>by simp at hx,by simp⟩,dX cI _,fun W' sp _ _=>shut_slice_nil ht⟩
  ·have h1':Value.slice a0 aAV cap0=.slice (some a) len cap:=by simpa [Value.cells] using h1
   rw [h1']
   simp only [Prod.mk.injEq] at hx
   obtain⟨rfl,rfl⟩:=hx
   have hzl:zs.length=cap:=by simpa using hz
   have hbl:∀i,i<zs.length→a.block<W.heap.size:=fun i hi=>by
    have:=hcell i hi
    unfold World.cell? at this
    rw [block_add] at this
    cases hq:W.heap[a.block]? with
    |none=>rw [hq] at this;cases this
    |some o=>exact(Array.getElem?_eq_some_iff.1 hq).1
   refine⟨.vs (zs.take len),⟨fun x hx=>bounds_i64 (hw x (List.mem_of_mem_take hx)),?_⟩,?_,fun W' sp hW hsp=>⟨2,?_⟩⟩
   ·have hlen0:(zs.take len).length≤cap:=by simp;omega
    have:maxLen≤z5:=by decide
    omega
   ·have hlen:(zs.take len).length=len:=by simp;omega
    refine⟨some a,cap,by rw [hlen],?_,by rw [hlen];exact hl,fun j x hj=>?_⟩
    ·rw [hlen]
     have:maxLen≤z5:=by decide
     omega
    ·have hjl:j<len:=by have:=(List.getElem?_eq_some_iff.1 hj).1;omega
     have hcj:=hcell j (by omega)
     have hsp:a.spot=none:=by
      have hc0:=hcell 0 (by omega)
      unfold World.cell? at hc0
      cases hq:a.spot with
      |none=>rfl
      |some s=>
       have e0:a.add 0=a:=by simp [Addr.add]
       rw [e0,hq] at hc0
       cases hh:W.heap[a.block]? with
       |none=>rw [hh] at hc0;cases hc0
       |some o=>rw [hh] at hc0;cases o<;>simp at hc0
     obtain⟨ab,ao,ax⟩:=a
     simp only at hsp
     subst hsp
     have hxz:zs.getD j 0=x:=by
      rw [List.getElem?_take,if_pos hjl] at hj
      simp [List.getD_eq_getElem?_getD,hj]
     rw [xB,hxz] at hcj
     refine⟨ab,ao,rfl,[.int .i64 x],⟨rfl,trivial⟩,fun t u hu=>?_⟩
     cases t with
     |succ t=>simp at hu
     |zero=>
      simp only [List.getElem?_cons_zero,Option.some.injEq] at hu
      subst hu
      unfold World.cell? at hcj
      have e1:ao+j*cI.n+0=ao+j:=by show ao+j*1+0=ao+j;omega
      rw [e1]
      unfold xT aGU
      cases hh:W.heap[ab]? with
      |none=>rw [hh] at hcj;cases hcj
      |some o=>rw [hh] at hcj;cases o<;>simp_all
   ·have hz':zs.length=(if sp a.block then cap else len):=by
     by_cases h0:cap=0
     ·have:len=0:=by omega
      rw [hzl,h0,this];simp
     ·have:sp a.block=true:=hsp (.cell a.block (a.off+0)) (by
       unfold MemPlace.row
       exact List.mem_map.2 ⟨0,List.mem_range.2 (by omega),rfl⟩)
      rw [this];simpa using hzl
    exact shut_ints 0 ht he hc (Nat.zero_le _) hl hm hz' (fun i hi=>by
     rw [←hcell i hi]
     unfold World.cell?
     rw [block_add,hW _ (hbl i hi)]) hw
def AKs (P:Program):List TypeId→List AK→Prop
 |[],[]=>True
 |t::ts,k::ks=>k.ok P t∧AKs P ts ks
 |_,_=>False
def aHi:List AK→List AV→Prop
 |[],[]=>True
 |k::ks,a::l=>AV.good k a∧aHi ks l
 |_,_=>False
theorem aFX {H:Type} {enc:TypeId×Value→H} {P:Program} {W:World} {base:Nat}:∀{ts:List TypeId} {ks:List AK} {vs:List Value} {ds:List (DataW H)} {p:List MemPlace},AKs P ts ks→
  (∀(j:Nat) t v,ts[j]?=some t→vs[j]?=some v→Value.okWide P W .any base t v)→DataW.TrodAll enc P W 0 (fun _=>true) true ts vs ds p→
  ∃avs,aHi ks avs∧rD (aGU W) (avs.map AV.vp) vs∧ds.length=ts.length∧∀(W':World) (sp:Nat→Bool),(∀b,b<W.heap.size→W'.heap[b]?=W.heap[b]?)→(∀q∈p,sp q.block=true)→DataW.TrodAll enc P W' 0 sp true ts vs ds p
 |[],[],vs,ds,p,_,_,h=>by
  obtain⟨rfl,rfl,rfl⟩:=trodAll_nil h
  exact⟨[],trivial,trivial,rfl,fun _ _ _ _=>trodAll_mk0⟩
 |t::ts,k::ks,vs,ds,p,hk,hv,h=>by
  obtain⟨v,vs',d,ds',q,r,rfl,rfl,rfl,h1,h2⟩:=trodAll_cons h
  obtain⟨av,a1,a2,a3⟩:=aJ5 hk.1 (hv 0 t v rfl rfl) h1
  obtain⟨avs,b1,b2,b3,b4⟩:=aFX hk.2 (fun j t' v' hj hj'=>hv (j+1) t' v' (by simpa using hj) (by simpa using hj')) h2
  exact⟨av::avs,⟨a1,b1⟩,⟨a2,b2⟩,by simp [b3],fun W' sp hW hsp=>trodAll_cons_mk (a3 W' sp hW fun x hx=>hsp x (by simp [hx])) (b4 W' sp hW fun x hx=>hsp x (by simp [hx]))⟩
 |[],_::_,_,_,_,hk,_,_=>hk.elim
 |_::_,[],_,_,_,hk,_,_=>hk.elim
theorem aJY {H:Type} {enc:TypeId×Value→H} {P:Program} {f:Func} {s:ChangeSpec} {apart fresh:Bool} {W W':World} {args:Array Value} {ds:List (DataW H)} {before:List MemPlace} {tb:TypeId}
  (hW:DataW.Whole enc P f.params.toList s.vars apart W args.toList ds [] before) (hv:s.vars=[]) (hr:f.resultTypes=#[tb]) (htb:P.underlying tb=some .bool)
  (hfn:s.fn H (ds++[])={results:=[.lit (.bool true)],args:=ds})
  (hargs:∀sp:Nat→Bool,(∀p∈before,sp p.block=true)→DataW.TrodAll enc P W' 0 sp true f.params.toList args.toList ds before) (hb:Below W.heap.size W W'):
  s.post enc P f apart fresh false false W args (.bool true) W':=by
 have hin:∀p∈before,(fun b=>decide (b<W.heap.size)) p.block=true:=fun p hp=>by simpa using hW.lt p hp
 refine⟨ds,[],before,[],before,[],hW,?_,?_,?_,World.keptBut_mono (fun p hp=>⟨hp,.inr (.inl hp)⟩) (hb.frame (·∈before)),fun h=>by cases h⟩
 ·rw [hfn,hr]
  exact trodAll_mk1 (shut_bool htb true)
 ·rw [hfn]
  exact hargs _ hin
 ·rw [hfn,hv]
  simp [DataW.TrodVars]
theorem aEe {H:Type} {enc:TypeId×Value→H} {P:Program} {n:Nat} {f:Func} {s:ChangeSpec} {apart fresh:Bool} {ts:List TypeId} {ks:List AK} {tb:TypeId} (hp:f.params=ts.toArray) (hk:AKs P ts ks)
  (hlaw:∀avs,aHi ks avs→Ct P n (avs.map AV.vp) (.vc (pB true))) (hv:s.vars=[]) (hr:f.resultTypes=#[tb]) (htb:P.underlying tb=some .bool)
  (hfn:∀ds:List (DataW H),ds.length=ts.length→s.fn H (ds++[])={results:=[.lit (.bool true)],args:=ds})
  {W:World} {base:Nat} {args:Array Value} {ds gs:List (DataW H)} {before:List MemPlace} (hval:∀(j:Nat) t v,f.params[j]?=some t→args[j]?=some v→Value.okWide P W .any base t v)
  (hW:DataW.Whole enc P f.params.toList s.vars apart W args.toList ds gs before):
  Calls P n args W fun e W'=>∃v,e=.returned v∧s.post enc P f apart fresh false false W args v W':=by
 have hW':=hW
 obtain⟨p,q,hA,hV,rfl,hfz,hnd⟩:=hW
 rw [hv] at hV
 obtain⟨rfl,rfl⟩:=trodVars_none hV
 rw [hp] at hA hval
 obtain⟨avs,a1,a2,a3,a4⟩:=aFX hk (fun j t v hj hj'=>hval j t v (by simpa using hj) (by simpa using hj')) hA
 have c:=hlaw avs a1
 refine(c.run (aGU W) W args (fun b o h=>h) (by simp) (by simp) a2).mono fun e W' h=>?_
 obtain⟨v,M',Ho,qq,⟨rfl,rfl⟩,rfl,hst,hq⟩:=h
 have hv1:v=.bool true:=hq
 subst hv1
 have hkeep:∀b,b<W.heap.size→W'.heap[b]?=W.heap[b]?:=fun b hb=>hst.keep b hb (by simp)
 refine⟨_,rfl,aJY (tb:=tb) hW' hv hr htb (hfn ds a3) (fun sp hsp=>?_) ⟨hst.os,hst.tape,hst.output,hst.size,hkeep⟩⟩
 rw [hp]
 have:=a4 W' sp hkeep (fun x hx=>hsp x (by simpa using hx))
 simpa using this
theorem own:ownKnob Tryz.prog.godebug=none:=by kernel_rfl
end Go.Proofs.YtcjdedkdoagifaaGreat
set_option linter.unusedVariables false
namespace Go.Proofs.YtcjdedkdoagifaaGreat
/-- The facts, numbered. -/
def jF (P:Program) (f:FuncId) (fn:Func) (s:ChangeSpec) (c:OpenClaim):Nat→Bool
 |0=>c.wf (OpenSpec.ofChange s)
 |1=>laidOutB P
 |2=>mapsRowed P
 |3=>fn.params.all (P.readableRec ·)
 |4=>namedTie P c.named s.vars
 |5=>c.stops==[]
 |6=>P.stops==[]
 |7=>c.knobs==[]
 |8=>P.stopKnobs==[]
 |9=>c.inPlace==P.inPlace f
 |10=>c.unfollowed==P.unfollowed f
 |11=>c.recurses==P.recurses f
 |12=>c.named==P.varsNamed f
 |13=>c.maps==(fn.params.toList++s.plain.varTypes P).any (P.mapsRec ·)
 |14=>c.ifaces==(fn.params.toList++s.plain.varTypes P).any (P.ifacesRec ·)
 |15=>c.mapsOut==P.mapsAmong fn.resultTypes.toList
 |16=>c.loops==(fn.params.toList++s.plain.varTypes P).any (P.loopsFrom ·)
 |17=>c.wideKeys==(fn.params.toList++s.plain.varTypes P++fn.resultTypes.toList).any (P.wideKeysFrom ·)
 |18=>s.vars.all (P.varReadable ·)
 |19=>fn.resultTypes.all (fun t=>P.readableRec t&&decide (t<P.types.size))
 |20=>c.ifacesOut==fn.resultTypes.toList.any (P.ifacesRec ·)
 |21=>c.loopsOut==fn.resultTypes.toList.any (P.loopsFrom ·)
 |22=>c.plainKeys==P.plainKeys
 |23=>c.shortTexts.isNone
 |24=>P.stopsHeard
 |25=>P.mayEnter
 |26=>c.lifted==P.liftsFinal
 |27=>P.make==some c.make
 |28=>c.kinds==(if c.domain.isEmpty then [] else fn.params.toList.map fun t=>match P.underlying t with|some (.int k)=>some k|_=>none)
 |29=>c.pinned==c.pinnedBy
 |30=>c.veiled==(fn.params.toList++s.plain.varTypes P++fn.resultTypes.toList).any (P.veiledRec ·)
 |31=>c.veiledFits P fn.params.toList (fn.params.toList++s.plain.varTypes P++fn.resultTypes.toList)
 |_=>true
theorem aHH {P:Program} {f:FuncId} {fn:Func} {s:ChangeSpec} {c:OpenClaim} (h:∀i,i<32→jF P f fn s c i=true):joinedFacts P f fn s c=true:=by
 unfold joinedFacts
 simp only [Bool.and_eq_true]
 exact⟨⟨⟨⟨⟨⟨⟨⟨⟨⟨⟨⟨⟨⟨⟨⟨⟨⟨⟨⟨⟨⟨⟨⟨⟨⟨⟨⟨⟨⟨⟨h 0 (by decide),h 1 (by decide)⟩,h 2 (by decide)⟩,h 3 (by decide)⟩,h 4 (by decide)⟩,h 5 (by decide)⟩,h 6 (by decide)⟩,h 7 (by decide)⟩,h 8 (by decide)⟩,h 9 (by decide)⟩,h 10 (by decide)⟩,h 11 (by decide)⟩,h 12 (by decide)⟩,h 13 (by decide)⟩,h 14 (by decide)⟩,h 15 (by decide)⟩,h 16 (by decide)⟩,h 17 (by decide)⟩,h 18 (by decide)⟩,h 19 (by decide)⟩,h 20 (by decide)⟩,h 21 (by decide)⟩,h 22 (by decide)⟩,h 23 (by decide)⟩,h 24 (by decide)⟩,h 25 (by decide)⟩,h 26 (by decide)⟩,h 27 (by decide)⟩,h 28 (by decide)⟩,h 29 (by decide)⟩,h 30 (by decide)⟩,h 31 (by decide)⟩
theorem kN {φ:Nat→Prop} {n:Nat} (h:φ n) (k:∀i,i<n→φ i):∀i,i<n+1→φ i:=fun i hi=>by
 by_cases e:i=n
 ·rw [e];exact h
 ·exact k i (by omega)
end Go.Proofs.YtcjdedkdoagifaaGreat
set_option linter.unusedVariables false
namespace Go.Proofs.YtcjdedkdoagifaaGreat
open Rat
def aHQ (a b:Rat):Option Int:=bif qs a&&qs b then some (if a<b then -1 else if b<a then 1 else 0) else none
def aAq (a:Rat):Option Bool:=bif qs a then some true else none
theorem aIS (x y:Int) (hx:x<0) (hy:y<0):tZ (y.natAbs:Int) (x.natAbs:Int)=tZ x y:=by
 unfold tZ
 by_cases a:x<y
 ·rw [if_pos a,if_pos (by omega)]
 ·rw [if_neg a,if_neg (by omega)]
  by_cases b:y<x
  ·rw [if_pos b,if_pos (by omega)]
  ·rw [if_neg b,if_neg (by omega)]
theorem aCK {x y:Int} (hx:dl x.natAbs≤9000000000000) (hy:dl y.natAbs≤9000000000000):Ev (fun K=>lM K (Z x) (Z y)) (tZ x y):=by
 have dx:=dA x.natAbs;have dy:=dA y.natAbs
 have tx:=nE x.natAbs;have ty:=nE y.natAbs
 unfold lM
 simp only [Z_d,sR]
 by_cases h1:x<0
 ·by_cases h2:y<0
  ·simp only [dT h1,dT h2,bne_self_eq_false,dS,d8]
   have h:=wX dy dx ty tx (by show dl _≤_;omega)
   rw [eH,eH,aIS x y h1 h2] at h
   exact Ev.bind h (Ev.pure _)
  ·simp only [dT h1,dF h2,Bool.bne_false,d8]
   unfold tZ
   rw [if_pos (by omega)]
   exact Ev.pure _
 ·by_cases h2:y<0
  ·simp only [dF h1,dT h2,Bool.bne_true,Bool.not_false,d8,dS]
   unfold tZ
   rw [if_neg (by omega),if_pos (by omega)]
   exact Ev.pure _
  ·simp only [dF h1,dF h2,bne_self_eq_false,dS]
   have h:=wX dx dy tx ty (by show dl _≤_;omega)
   rw [eH,eH,show((x.natAbs:Nat):Int)=x by omega,show((y.natAbs:Nat):Int)=y by omega] at h
   exact Ev.bind h (Ev.pure _)
theorem aHF (a b:Rat):(if a<b then -1 else if b<a then 1 else 0:Int)=tZ (a.num*b.den) (b.num*a.den):=by
 unfold tZ
 simp only [Rat.lt_iff]
theorem aCv (u v:Int) (p q:Nat) (hp:0<p) (hq:0<q) (h:u.sign≠v.sign∨u=0∧v=0):tZ u.sign v.sign=tZ (u*q) (v*p):=by
 have key:∀(w:Int) (n:Nat),0<n→(w<0∧w.sign=-1∧w*n<0)∨(w=0∧w.sign=0∧w*n=0)∨(0<w∧w.sign=1∧0<w*n):=fun w n hn=>by
  rcases Int.lt_trichotomy w 0 with hw|hw|hw
  ·exact .inl ⟨hw,Int.sign_eq_neg_one_of_neg hw,Int.mul_neg_of_neg_of_pos hw (by omega)⟩
  ·exact .inr (.inl ⟨hw,by rw [hw];rfl,by rw [hw,Int.zero_mul]⟩)
  ·exact .inr (.inr ⟨hw,Int.sign_eq_one_of_pos hw,Int.mul_pos hw (by omega)⟩)
 unfold tZ
 rcases key u q hq with⟨_,e1,e2⟩|⟨_,e1,e2⟩|⟨_,e1,e2⟩<;>rcases key v p hp with⟨_,f1,f2⟩|⟨_,f1,f2⟩|⟨_,f1,f2⟩<;>rw [e1,f1] at h<;>rw [e1,f1]<;>(repeat' split)<;>omega
theorem aHb (u:Int):-9223372036854775808≤u.sign∧u.sign≤9223372036854775807∧dl u.sign.natAbs≤1:=by
 have h1:dl 1=1:=dl1
 have h0:dl 0=0:=uO
 rcases Int.lt_trichotomy u 0 with hw|hw|hw
 ·rw [Int.sign_eq_neg_one_of_neg hw];exact⟨by omega,by omega,by show dl 1≤1;omega⟩
 ·rw [hw];exact⟨by decide,by decide,by show dl 0≤1;omega⟩
 ·rw [Int.sign_eq_one_of_pos hw];exact⟨by omega,by omega,by show dl 1≤1;omega⟩
theorem aE8 {a b:Rat} (ha:qs a=true) (hb:qs b=true):Ev (fun K=>u9 K (Qr a) (Qr b)) (if a<b then -1 else if b<a then 1 else 0):=by
 obtain⟨a1,a2⟩:=uI ha
 obtain⟨b1,b2⟩:=uI hb
 obtain⟨c1,c2,c3⟩:=aAd ha hb
 obtain⟨s1,s2,s3⟩:=aHb a.num
 obtain⟨t1,t2,t3⟩:=aHb b.num
 have ad:=a.den_pos
 have bd:=b.den_pos
 rw [aHF]
 unfold u9
 simp only [aEX,oB,aCT ⟨s1,s2⟩,aCT ⟨t1,t2⟩]
 by_cases h:a.num.sign=b.num.sign
 ·simp only [nF h,dS]
  by_cases h0:a.num.sign=0
  ·simp only [qT h0,d8]
   have e:=aCv a.num b.num a.den b.den ad bd (.inr ⟨Int.sign_eq_zero_iff_zero.1 h0,Int.sign_eq_zero_iff_zero.1 (h▸h0)⟩)
   rw [←e]
   exact Ev.bind (aCK (by omega) (by omega)) (Ev.pure _)
  ·simp only [qF h0,dS,aBx,oB,Qp]
   exact Ev.bind (w5 (by simp;omega)) (Ev.bind (w5 (by simp;omega)) (Ev.bind (aCK (by omega) (by omega)) (Ev.pure _)))
 ·simp only [nT h,d8]
  rw [←aCv a.num b.num a.den b.den ad bd (.inl h)]
  exact Ev.bind (aCK (by omega) (by omega)) (Ev.pure _)
theorem vdig {d:Int} (h:0≤d∧d<1000000000):kJ d=some false:=by
 unfold kJ
 rw [dF (by omega),dS,dF (by omega)]
theorem aFn {xs:List Int} (hd:lA xs) (hl:xs.length≤9000000000000) (K:Nat):∀(m i:Nat),i+m=xs.length→∀k,m<k→fO K xs kJ k i=some (.go ())
 |0,i,h,k+1,_=>by
  simp only [fO]
  rw [dF (by omega),dS]
 |m+1,i,h,k+1,hk=>by
  simp only [fO]
  rw [dT (by omega),d8,dU (by omega),oB,vdig (hd i),oB,dS,show((i:Nat):Int)+1=((i+1:Nat):Int) by omega,aD8 (by omega) (by omega),oB]
  exact aFn hd hl K m (i+1) (by omega) k (by omega)
theorem aE3 {n:Nat} (h:dl n≠0):(dD n).getD (dl n-1) 0≠0:=by
 rcases nE n with h1|h1
 ·exact absurd (by unfold dl;rw [h1];rfl) h
 ·exact h1
theorem aI4 {x:Int} (hx:dl x.natAbs≤9000000000000):Ev (fun K=>nS K (Z x)) true:=by
 refine⟨dl x.natAbs+1,fun K hK=>?_⟩
 have hc:jY K (dD x.natAbs) kJ=some false:=by
  unfold jY oE
  have:=aFn (dA x.natAbs) (by show dl _≤_;omega) K (dl x.natAbs) 0 (by show 0+dl _=dl _;omega) K (by omega)
  rw [show((0:Nat):Int)=0 from rfl] at this
  rw [this]
  rfl
 show nS K (Z x)=some true
 unfold nS
 have hl0:(((dD x.natAbs).length:Int)==0)=decide (x=0):=aAV
 rw [Z_d,hc,oB,dS,hl0]
 by_cases h:x=0
 ·rw [dT h,d8,sR,dF (by omega)];rfl
 ·have hl:dl x.natAbs≠0:=by rw [Ne,tX];omega
  have hlen:(dD x.natAbs).length=dl x.natAbs:=rfl
  rw [dF h,dS,dT (by omega),d8,aD8 (by omega) (by omega),oB,hlen,show((dl x.natAbs:Nat):Int)-1=((dl x.natAbs-1:Nat):Int) by omega,dU (by omega),oB,nT (aE3 hl)]
theorem aDv {x:Int} (hl:dl x.natAbs≤9000000000000) (K:Nat):∀(m i:Nat),i+m=dl x.natAbs→∀k,m<k→iI K (Z x) k i=some (.go ())
 |0,i,h,k+1,_=>by
  have hlen:(Z x).d.length=dl x.natAbs:=rfl
  simp only [iI]
  rw [dF (show¬(i:Int)<((Z x).d.length:Int) by omega),dS]
 |m+1,i,h,k+1,hk=>by
  have hlen:(Z x).d.length=dl x.natAbs:=rfl
  have hd:0≤(Z x).d.getD i 0∧(Z x).d.getD i 0<1000000000:=dA x.natAbs i
  simp only [iI]
  rw [dT (show(i:Int)<((Z x).d.length:Int) by omega),d8,dU (by omega),oB,dF (by omega),dS,oB,dF (by omega),dS,show((i:Nat):Int)+1=((i+1:Nat):Int) by omega,aD8 (by omega) (by omega),oB]
  exact aDv hl K m (i+1) (by omega) k (by omega)
theorem aG8 {x:Int} (hx:dl x.natAbs≤9000000000000):Ev (fun K=>kB K (Z x)) true:=by
 refine⟨dl x.natAbs+1,fun K hK=>?_⟩
 have:=aDv hx K (dl x.natAbs) 0 (by omega) K (by omega)
 show kB K (Z x)=some true
 unfold kB
 rw [show((0:Nat):Int)=0 from rfl] at this
 rw [this]
 show lE K (Z x)=some true
 unfold lE
 rw [aAV]
 by_cases h:x=0
 ·rw [dT h,d8,sR,dF (by omega)];rfl
 ·have hl:dl x.natAbs≠0:=by rw [Ne,tX];omega
  have hlen:(dD x.natAbs).length=dl x.natAbs:=rfl
  rw [dF h,dS,Z_d,hlen,aD8 (by omega) (by omega),oB,show((dl x.natAbs:Nat):Int)-1=((dl x.natAbs-1:Nat):Int) by omega,dU (by omega),oB,nT (aE3 hl)]
theorem aLt (a:Rat):Qr a=⟨Z a.num,Z (if a.den=1 then 0 else a.den)⟩:=by
 rw [aAM]
 by_cases h:a.den=1
 ·rw [if_pos h,if_pos h,Z0]
 ·rw [if_neg h,if_neg h]
theorem aII {a:Rat}:(if a.den=1 then(0:Int) else a.den)≠1∧0≤(if a.den=1 then(0:Int) else a.den)∧dl (if a.den=1 then(0:Int) else a.den).natAbs≤dl a.den∧((if a.den=1 then(0:Int) else a.den)≠0→Int.gcd a.num (if a.den=1 then(0:Int) else a.den)=1):=by
 by_cases h:a.den=1
 ·rw [if_pos h];exact⟨by omega,by omega,by show dl 0≤_;rw [uO];omega,fun h=>absurd rfl h⟩
 ·rw [if_neg h];exact⟨by omega,by omega,by simp,fun _=>a.reduced⟩
theorem aHn {a:Rat} (ha:qs a=true):Ev (fun K=>w6 K (Qr a)) true:=by
 obtain⟨a1,a2⟩:=uI ha
 obtain⟨q1,q2,q3,q4⟩:=@aII a
 rw [aLt]
 generalize(if a.den=1 then(0:Int) else a.den)=q at *
 unfold w6
 refine Ev.bind (aI4 (by omega)) ?_
 simp only [Bool.not_true,dS]
 refine Ev.bind (aI4 (by omega)) ?_
 simp only [Bool.not_true,dS,sR,dF (show¬q<0 by omega),zP,oB,dF q1,aAV]
 by_cases h:q=0
 ·simp only [dT h,d8];exact Ev.pure _
 ·simp only [dF h,dS]
  refine Ev.bind (aGw (by omega) (by omega)) ?_
  rw [q4 h]
  simp only [zP,oB]
  exact Ev.pure _
theorem aF5 {a:Rat} (ha:qs a=true):Ev (fun K=>qU K (Qr a)) true:=by
 obtain⟨a1,a2⟩:=uI ha
 obtain⟨q1,q2,q3,q4⟩:=@aII a
 rw [aLt]
 generalize(if a.den=1 then(0:Int) else a.den)=q at *
 unfold qU
 refine Ev.bind (aG8 (by omega)) ?_
 simp only [Bool.not_true,dS]
 refine Ev.bind (aG8 (by omega)) ?_
 simp only [Bool.not_true,dS,sR,dF (show¬q<0 by omega),aA5,oB,dF q1,aAV]
 by_cases h:q=0
 ·simp only [dT h,d8];exact Ev.pure _
 ·simp only [dF h,dS]
  refine Ev.bind (aFQ (by omega) (by omega)) ?_
  rw [q4 h]
  simp only [aA5,oB]
  exact Ev.pure _
theorem oP {a b:Rat} {r:Int} (h:aHQ a b=some r):Ct Tryz.prog aDp [.va (eQ a),.va (eQ b)] (.vc (pI .i64 r)):=by
 obtain⟨h1,h2,rfl⟩:=xF h
 obtain⟨K,hK⟩:=(aE8 h1 h2).get
 exact aDe hK
theorem qJ {a:Rat} {r:Bool} (h:aAq a=some r):Ct Tryz.prog aEY [.va (eQ a)] (.vc (pB r)):=by
 obtain⟨h1,rfl⟩:=aCB h
 obtain⟨K,hK⟩:=(aHn h1).get
 exact aEv hK
theorem gY {a:Rat} {r:Bool} (h:aAq a=some r):Ct Tryz.prog aAs [.va (eQ a)] (.vc (pB r)):=by
 obtain⟨h1,rfl⟩:=aCB h
 obtain⟨K,hK⟩:=(aF5 h1).get
 exact zN hK
end Go.Proofs.YtcjdedkdoagifaaGreat
