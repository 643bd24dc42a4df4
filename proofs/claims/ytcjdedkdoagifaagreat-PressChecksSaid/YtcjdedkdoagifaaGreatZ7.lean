/- Texts of the proof, part 7: YZ. -/
import Derived.Test.YtcjdedkdoagifaaGreatZ6
set_option linter.unusedSimpArgs false
set_option linter.unusedVariables false
namespace Go.Proofs.YtcjdedkdoagifaaGreat
theorem aIb {l:List Rat} {B:Nat} (hl:uD B l) (hB:B≤1073741824) (hn:l.length≤1000) (K:Nat):∀(t i k:Nat),i+t=l.length→t<k→dA K l oM k (i:Int)=some (.go ())
 |0,i,k,hi,hk=>by
  obtain⟨k',rfl,_⟩:=bB hk
  simp only [dA,dF (show¬(i:Int)<(l.length:Int) by omega),bJ]
 |t+1,i,k,hi,hk=>by
  obtain⟨k',rfl,_⟩:=bB hk
  simp only [dA,dT (show(i:Int)<(l.length:Int) by omega),bS,aA8 (l:=l) (i:=i) (by omega),oB,oM,sD (hl _ (u8 (l:=l) (i:=i) (by omega))) hB,Bool.not_true,bJ,m6 (i:=i) (by omega)]
  exact aIb hl hB hn K t (i+1) k' (by omega) (by omega)
theorem aN4 {l:List Rat} {B:Nat} (hl:uD B l) (hB:B≤1073741824) (hn:l.length≤1000) {K:Nat} (hK:l.length<K):pW K l=some true:=by
 have:=aIb hl hB hn K l.length 0 K (by omega) (by omega)
 simp only [Int.natCast_zero] at this
 simp only [pW,kM,mD,this,oB,kS];rfl
theorem aGq {l:List Rat} {B:Nat} (hl:uD B l) (hB:B≤1073741824) (hn:l.length≤1000) (K:Nat):∀(t i k:Nat),i+t=l.length→t<k→eG K l k (i:Int)=some (.go ())
 |0,i,k,hi,hk=>by
  obtain⟨k',rfl,_⟩:=bB hk
  simp only [eG,dF (show¬(i:Int)<(l.length:Int) by omega),bJ]
 |t+1,i,k,hi,hk=>by
  obtain⟨k',rfl,_⟩:=bB hk
  simp only [eG,dT (show(i:Int)<(l.length:Int) by omega),bS,aA8 (l:=l) (i:=i) (by omega),oB,sD (hl _ (u8 (l:=l) (i:=i) (by omega))) hB,Bool.not_true,bJ,m6 (i:=i) (by omega)]
  exact aGq hl hB hn K t (i+1) k' (by omega) (by omega)
theorem aLa {l:List Rat} {B:Nat} (hl:uD B l) (hB:B≤1073741824) (hn:l.length≤1000) {K:Nat} (hK:l.length<K):iL K l=some true:=by
 have:=aGq hl hB hn K l.length 0 K (by omega) (by omega)
 simp only [Int.natCast_zero] at this
 simp only [iL,this,oB,nP]
def PBs (C:Nat) (p:List aF):Prop:=∀x∈p,Bd C x.n∧Bd C x.f
theorem aLk {p:List aF} {i:Nat} (h:i<p.length):bT p (i:Int)=some p[i]:=rdG (List.getElem?_eq_getElem h)
theorem aKu {p:List aF} {C:Nat} (hp:PBs C p) (hC:C≤1073741824) (hn:p.length≤1000) (K:Nat):∀(t i k:Nat),i+t=p.length→t<k→fE K p o7 k (i:Int)=some (.go ())
 |0,i,k,hi,hk=>by
  obtain⟨k',rfl,_⟩:=bB hk
  simp only [fE,dF (show¬(i:Int)<(p.length:Int) by omega),bJ]
 |t+1,i,k,hi,hk=>by
  obtain⟨k',rfl,_⟩:=bB hk
  have hil:i<p.length:=by omega
  obtain⟨b1,b2⟩:=hp _ (List.getElem_mem hil)
  simp only [fE,dT (show(i:Int)<(p.length:Int) by omega),bS,aLk hil,oB,o7,sD b1 hC,sD b2 hC,Bool.not_true,bJ,m6 (i:=i) (by omega)]
  exact aKu hp hC hn K t (i+1) k' (by omega) (by omega)
theorem aOv {p:List aF} {C:Nat} (hp:PBs C p) (hC:C≤1073741824) (hn:p.length≤1000) {K:Nat} (hK:1000<K):kA K p o7=some false:=by
 have:=aKu hp hC hn K p.length 0 K (by omega) (by omega)
 simp only [Int.natCast_zero] at this
 simp only [kA,oO,this,oB,mF];rfl
theorem aGf {p:List aF} {C:Nat} (hp:PBs C p) (hC:C≤1073741824) (hn:p.length≤1000) (K:Nat):∀(t i k:Nat),i+t=p.length→t<k→gR K p k (i:Int)=some (.go ())
 |0,i,k,hi,hk=>by
  obtain⟨k',rfl,_⟩:=bB hk
  simp only [gR,dF (show¬(i:Int)<(p.length:Int) by omega),bJ]
 |t+1,i,k,hi,hk=>by
  obtain⟨k',rfl,_⟩:=bB hk
  have hil:i<p.length:=by omega
  obtain⟨b1,b2⟩:=hp _ (List.getElem_mem hil)
  simp only [gR,dT (show(i:Int)<(p.length:Int) by omega),bS,aLk hil,oB,sD b1 hC,sD b2 hC,Bool.not_true,bJ,m6 (i:=i) (by omega)]
  exact aGf hp hC hn K t (i+1) k' (by omega) (by omega)
theorem aD4 {a:List Rat} {i:Nat} (h:i<a.length):a.drop i=qB a i::a.drop (i+1):=by
 have:qB a i=a[i]:=by unfold qB;simp [List.getD_eq_getElem?_getD,h]
 rw [this];exact List.drop_eq_getElem_cons h
theorem aP6 {a b:List Rat} {B:Nat} (ha:uD B a) (hb:uD B b) (hB:B≤1073741824) (hl:a.length=b.length) (hn:a.length≤1000) (K:Nat):∀(t i k:Nat),i+t=a.length→t<k→eO K a b (fun x=>uB x.1 x.2) k (i:Int)=some (bif decide (a.drop i=b.drop i) then .go () else .ret false)∧eY K a b k (i:Int)=some (bif decide (a.drop i=b.drop i) then .go () else .ret false)
 |0,i,k,hi,hk=>by
  obtain⟨k',rfl,_⟩:=bB hk
  have e:a.drop i=b.drop i:=by rw [List.drop_of_length_le (by omega),List.drop_of_length_le (by omega)]
  constructor
  ·simp only [eO,dF (show¬(i:Int)<(a.length:Int) by omega),bJ,decide_eq_true e,bS]
  ·simp only [eY,dF (show¬(i:Int)<(a.length:Int) by omega),bJ,decide_eq_true e,bS]
 |t+1,i,k,hi,hk=>by
  obtain⟨k',rfl,_⟩:=bB hk
  have hia:i<a.length:=by omega
  have hib:i<b.length:=by omega
  obtain⟨h1,h2⟩:=aP6 ha hb hB hl hn K t (i+1) k' (by omega) (by omega)
  have q:=aBF (ha _ (u8 hia)) (hb _ (u8 hib)) hB hB
  by_cases e:qB a i=qB b i
  ·have e2:decide (a.drop i=b.drop i)=decide (a.drop (i+1)=b.drop (i+1)):=decide_eq_decide.2 (by rw [aD4 hia,aD4 hib,e];simp)
   rw [e2]
   constructor
   ·simp only [eO,dT (show(i:Int)<(a.length:Int) by omega),bS,aA8 hia,aA8 hib,oB,q,decide_eq_true e,Bool.not_true,bJ,m6 (i:=i) (by omega),h1]
   ·simp only [eY,dT (show(i:Int)<(a.length:Int) by omega),bS,aA8 hia,aA8 hib,oB,q,decide_eq_true e,Bool.not_true,bJ,m6 (i:=i) (by omega),h2]
  ·have e2:decide (a.drop i=b.drop i)=false:=decide_eq_false (fun h=>by rw [aD4 hia,aD4 hib] at h;exact e (List.cons.inj h).1)
   rw [e2,bJ]
   constructor
   ·simp only [eO,dT (show(i:Int)<(a.length:Int) by omega),bS,aA8 hia,aA8 hib,oB,q,decide_eq_false e,Bool.not_false]
   ·simp only [eY,dT (show(i:Int)<(a.length:Int) by omega),bS,aA8 hia,aA8 hib,oB,q,decide_eq_false e,Bool.not_false]
theorem aRZ {a b:List Rat} {B:Nat} (ha:uD B a) (hb:uD B b) (hB:B≤1073741824) (hl:a.length=b.length) (hn:a.length≤1000) {K:Nat} (hK:1000<K):mK K a b (fun x=>uB x.1 x.2)=some (decide (a=b))∧nJ K a b=some (decide (a=b)):=by
 obtain⟨h1,h2⟩:=aP6 ha hb hB hl hn K a.length 0 K (by omega) (by omega)
 simp only [Int.natCast_zero,List.drop_zero] at h1 h2
 constructor
 ·simp only [mK,nF (show(a.length:Int)=b.length by omega),bJ,h1,oB]
  cases decide (a=b)<;>rfl
 ·simp only [nJ,nF (show(a.length:Int)=b.length by omega),bJ,h2,oB]
  cases decide (a=b)<;>rfl
def pn (p:List aF) (i:Nat):aF:=p.getD i ⟨0,0⟩
theorem aKF {p:List aF} {i:Nat} (h:i<p.length):pn p i=p[i]:=by unfold pn;simp [List.getD_eq_getElem?_getD,h]
def aAN (l:List aA) (v a:List Rat) (p:Nat→aF):Nat→Nat→Bool
 |0,_=>true
 |t+1,i=>aFL (lE l i) v a (p i)&&aAN l v a p t (i+1)
theorem aKD {d:List aG} {f v a:List Rat} {l:List aA} {p:List aF} {C B:Nat} (hv:uD 64 v) (ha:uD B a) (hl:RsC l) (hp:PBs C p) (hC:C≤100000000) (hB:B≤80000000) (hpl:p.length=l.length) (hn:l.length≤1000) {K:Nat} (hK:13≤K):∀(t i k:Nat),i+t=l.length→t<k→
  mU K d f v l a p k (i:Int)=some (bif aAN l v a (pn p) t i then .go () else .ret 18)∧gQ K v l a p k (i:Int)=some (bif aAN l v a (pn p) t i then .go () else .ret 18)
 |0,i,k,hi,hk=>by
  obtain⟨k',rfl,_⟩:=bB hk
  constructor
  ·simp only [mU,dF (show¬(i:Int)<(l.length:Int) by omega),bJ];rfl
  ·simp only [gQ,dF (show¬(i:Int)<(l.length:Int) by omega),bJ];rfl
 |t+1,i,k,hi,hk=>by
  obtain⟨k',rfl,_⟩:=bB hk
  have hil:i<l.length:=by omega
  have hip:i<p.length:=by omega
  obtain⟨b1,b2⟩:=hp _ (List.getElem_mem hip)
  obtain⟨h1,h2⟩:=aKD (d:=d) (f:=f) hv ha hl hp hC hB hpl hn hK t (i+1) k' (by omega) (by omega)
  have o1:=aNE (d:=d) (f:=f) (l:=l) hv ha (hl _ (qQ hil)) b1 b2 hC hB hK
  have o2:=aLQ hv ha (hl _ (qQ hil)) b1 b2 hC hB hK
  unfold aAN
  rw [aKF hip]
  constructor
  ·simp only [mU,dT (show(i:Int)<(l.length:Int) by omega),bS,aB3 hil,aLk hip,oB,o1]
   cases aFL (lE l i) v a p[i]
   ·rfl
   ·simp only [Bool.not_true,bJ,m6 (i:=i) (by omega),oB,h1,Bool.true_and]
  ·simp only [gQ,dT (show(i:Int)<(l.length:Int) by omega),bS,aB3 hil,aLk hip,oB,o2]
   cases aFL (lE l i) v a p[i]
   ·rfl
   ·simp only [Bool.not_true,bJ,m6 (i:=i) (by omega),oB,h2,Bool.true_and]
def aMe (d:List aG) (f v:List Rat) (l:List aA) (a:List Rat) (p:List aF):Int:=
 bif decide (a.length=d.length)&&decide (p.length=l.length) then(bif decide (a=mp (yH d (qB f) l (pn p)) d.length)&&aAN l v a (pn p) l.length 0 then 0 else 18) else 18
theorem aO9 {p:List aF} {n:Nat} (h:n≤p.length):p.take n=mp (pn p) n:=by
 refine List.ext_getElem (by unfold mp;simp;omega) fun i h1 h2=>?_
 have h3:i<n:=by simp at h1;omega
 simp only [List.getElem_take,mp,List.getElem_map,List.getElem_range,aKF (show i<p.length by omega)]
theorem PBs.fn {p:List aF} {C n:Nat} (h:PBs C p) (hn:n≤p.length):PB' C n (pn p):=fun i hi=>by
 rw [aKF (by omega)];exact h _ (List.getElem_mem (by omega))
theorem aEL {d:List aG} {f v:List Rat} {l:List aA} (h:ScB d f v l) (hf:aAc d f v l=true) (hm:l.length≤4) {a:List Rat} {p:List aF} (ha:uD 40000000 a) (hal:a.length≤1000) (hp:PBs 300000 p) (hpl:p.length≤1000) {K:Nat} (hK:6000≤K):gF K d f v l a p=some (aMe d f v l a p)∧fR K d f v l a p=some (aMe d f v l a p):=by
 have hn:=h.n8
 have hrb:RsB l:=fun r hr=>(h.sb.sl r hr).1
 have f1:=aEj h.sb (show 200≤K by omega)
 have f2:=aG4 h.sb (show 200≤K by omega)
 unfold aMe
 by_cases e1:a.length=d.length
 ·by_cases e2:p.length=l.length
  ·rw [decide_eq_true e1,decide_eq_true e2,Bool.true_and,bS]
   have hA:(300000+9)*24*l.length≤400000000:=by omega
   have pb:=hp.fn (show l.length≤p.length by omega)
   have a1:=aEa (f0:=f) (v0:=v) h.sb.sd (by omega) h.fbd hrb h.ir (by omega) pb (by omega) hA (show 2000≤K by omega)
   have a2:=aD3 h.sb.sd (by omega) h.fbd hrb h.ir (by omega) pb (by omega) hA (show 2000≤K by omega)
   have ab:=aCx h.sb.sd h.fbd hrb h.ir pb (by omega) (by omega) (by omega) hA
   have ab':uD 40000000 (mp (yH d (qB f) l (pn p)) d.length):=fun x hx=>(ab x hx).mono (by unfold aGO;omega)
   have ep:mp (pn p) l.length=p:=by rw [←aO9 (by omega),List.take_of_length_le (by omega)]
   rw [←h.fmp,ep] at a1 a2
   obtain⟨q1,q2⟩:=aRZ ha ab' (by omega) (by rw [bX];omega) hal (show 1000<K by omega)
   obtain⟨l1,l2⟩:=aKD (d:=d) (f:=f) h.sb.sv ha h.sb.sl hp (by omega) (by omega) e2 (by omega) (show 13≤K by omega) l.length 0 K (by omega) (by omega)
   have r1:=aGf hp (by omega) hpl K p.length 0 K (by omega) (by omega)
   simp only [Int.natCast_zero] at l1 l2 r1
   constructor
   ·simp only [gF,f1,hf,oB,Bool.not_true,bJ,nF (show(a.length:Int)=d.length by omega),nF (show(p.length:Int)=l.length by omega),aN4 ha (by omega) hal (show a.length<K by omega),aOv hp (by omega) hpl (show 1000<K by omega),a1,q1,l1]
    cases decide (a=mp (yH d (qB f) l (pn p)) d.length)<;>cases aAN l v a (pn p) l.length 0<;>rfl
   ·simp only [fR,f2,hf,oB,Bool.not_true,bJ,nF (show(a.length:Int)=d.length by omega),nF (show(p.length:Int)=l.length by omega),aLa ha (by omega) hal (show a.length<K by omega),r1,oX,a2,q2,l2]
    cases decide (a=mp (yH d (qB f) l (pn p)) d.length)<;>cases aAN l v a (pn p) l.length 0<;>rfl
  ·rw [decide_eq_false e2,Bool.and_false,bJ]
   constructor
   ·simp only [gF,f1,hf,oB,Bool.not_true,bJ,nF (show(a.length:Int)=d.length by omega),nT (show(p.length:Int)≠l.length by omega),bS]
   ·simp only [fR,f2,hf,oB,Bool.not_true,bJ,nF (show(a.length:Int)=d.length by omega),nT (show(p.length:Int)≠l.length by omega),bS]
 ·rw [decide_eq_false e1,Bool.false_and,bJ]
  constructor
  ·simp only [gF,f1,hf,oB,Bool.not_true,bJ,nT (show(a.length:Int)≠d.length by omega),bS]
  ·simp only [fR,f2,hf,oB,Bool.not_true,bJ,nT (show(a.length:Int)≠d.length by omega),bS]
structure XP (m n:Nat) (x:List Rat) (p:List aF):Prop where
 xb:uD 40000000 x
 xl:x.length≤m
 pb:PBs 300000 p
 pl:p.length≤m
 pm:n≤p.length
theorem PBs.set {C i:Nat} {p:List aF} {q:aF} (h:PBs C p) (hq:Bd C q.n∧Bd C q.f):PBs C (p.set i q):=fun x hx=>by
 rcases List.mem_or_eq_of_mem_set hx with h1|h1
 ·exact h x h1
 ·rw [h1];exact hq
theorem aOy {m n:Nat} {x:List Rat} {p:List aF} (h:XP m n x p) (hm:m≤900) {a2 a3 a4:Int} (h2:-9223372036854775808≤a2∧a2≤9223372036854775807) (h3:-9223372036854775808≤a3∧a3≤9223372036854775807) (h4:-9223372036854775808≤a4∧a4≤9223372036854775807):∃y,nY x p a2 a3 a4=some y∧XP (m+1) n y.1 y.2:=by
 have hxl:=h.xl
 have hpl:=h.pl
 have hpm:=h.pm
 obtain⟨v21,b1,b2,b3⟩:=xK (x:=a4) (m:=7) h4 (by omega)
 obtain⟨v25,c1,c2⟩:=aJ3 (x:=a4) (y:=7) h4 (by omega)
 obtain⟨v27,d1,d2,d3⟩:=xK (x:=v25) (m:=3) c2 (by omega)
 obtain⟨q,q1,q2,q3⟩:=aBs (k:=4) (p:=v21-3) (q:=1+v27) (by omega) (by omega) (by omega) (by omega)
 obtain⟨v34,e1,e2,e3⟩:=xK (x:=a2) (m:=5) h2 (by omega)
 have x1:pA ([]:List Rat) x=some x:=by rw [xL (by simp;omega)];rfl
 have p1:pA ([]:List aF) p=some p:=by rw [xL (by simp;omega)];rfl
 have ck1:aS (v21-3)=some (v21-3):=lI (by omega)
 have ck2:aS (1+v27)=some (1+v27):=lI (by omega)
 have hX:XP (m+1) n x p:=⟨h.xb,by omega,h.pb,by omega,hpm⟩
 simp only [nY,x1,p1,oB,b1,ck1,c1,d1,ck2,q1,e1]
 by_cases k0:v34=0
 ·simp only [qT k0,bS]
  by_cases hx:0<x.length
  ·obtain⟨r',g1,g2,g3⟩:=xK (x:=a3) (m:=(x.length:Int)) h3 (by omega)
   obtain⟨r,rfl⟩:∃r:Nat,r'=(r:Int):=⟨r'.toNat,by omega⟩
   simp only [dT (show(0:Int)<x.length by omega),bS,g1,aA8 (l:=x) (i:=r) (by omega),stG (xs:=x) (i:=r) (v:=q) (by omega),oB]
   refine⟨(x.set r q,p),rfl,fun y hy=>?_,by simp only [List.length_set];omega,h.pb,by simp only;omega,hpm⟩
   rcases List.mem_or_eq_of_mem_set hy with h1|h1
   ·exact h.xb y h1
   ·rw [h1];exact q3.mono (by omega)
  ·simp only [dF (show¬(0:Int)<x.length by omega),bJ]
   exact⟨(x,p),rfl,hX⟩
 ·simp only [qF k0,bJ]
  have hp0:0<p.length→∃r:Nat,dD a3 (p.length:Int)=some (r:Int)∧r<p.length:=fun hp=>by
   obtain⟨r',g1,g2,g3⟩:=xK (x:=a3) (m:=(p.length:Int)) h3 (by omega)
   obtain⟨r,rfl⟩:∃r:Nat,r'=(r:Int):=⟨r'.toNat,by omega⟩
   exact⟨r,g1,by omega⟩
  by_cases k1:v34=1
  ·simp only [qT k1,bS]
   by_cases hp:0<p.length
   ·obtain⟨r,g1,g2⟩:=hp0 hp
    simp only [dT (show(0:Int)<p.length by omega),bS,g1,aLk g2,stG (xs:=p) (i:=r) (v:=(⟨q,(p[r]).f⟩:aF)) g2,oB]
    exact⟨(x,p.set r ⟨q,(p[r]).f⟩),rfl,h.xb,by simp only;omega,h.pb.set ⟨q3.mono (by omega),(h.pb _ (List.getElem_mem g2)).2⟩,by simp only [List.length_set];omega,by simp only [List.length_set];omega⟩
   ·simp only [dF (show¬(0:Int)<p.length by omega),bJ]
    exact⟨(x,p),rfl,hX⟩
  ·simp only [qF k1,bJ]
   by_cases k2:v34=2
   ·simp only [qT k2,bS]
    by_cases hp:0<p.length
    ·obtain⟨r,g1,g2⟩:=hp0 hp
     simp only [dT (show(0:Int)<p.length by omega),bS,g1,aLk g2,stG (xs:=p) (i:=r) (v:=(⟨(p[r]).n,q⟩:aF)) g2,oB]
     exact⟨(x,p.set r ⟨(p[r]).n,q⟩),rfl,h.xb,by simp only;omega,h.pb.set ⟨(h.pb _ (List.getElem_mem g2)).1,q3.mono (by omega)⟩,by simp only [List.length_set];omega,by simp only [List.length_set];omega⟩
    ·simp only [dF (show¬(0:Int)<p.length by omega),bJ]
     exact⟨(x,p),rfl,hX⟩
   ·simp only [qF k2,bJ]
    by_cases k3:v34=3
    ·simp only [qT k3,bS,apS (xs:=x) (x:=q) (by omega),oB]
     exact⟨(x++[q],p),rfl,h.xb.snoc (q3.mono (by omega)),by simp;omega,h.pb,by simp only;omega,hpm⟩
    ·simp only [qF k3,bJ,apS (xs:=p) (x:=(⟨0,0⟩:aF)) (by omega),oB]
     refine⟨(x,p++[⟨0,0⟩]),rfl,h.xb,by simp only;omega,fun y hy=>?_,by simp;omega,by simp;omega⟩
     rcases List.mem_append.1 hy with h1|h1
     ·exact h.pb y h1
     ·rw [List.mem_singleton.1 h1];exact⟨Bd.zero.mono (by omega),Bd.zero.mono (by omega)⟩
theorem aQ2 {x y:Int} (hx:-9223372036854775808≤x∧x≤9223372036854775807) (hy:y=1∨y=5):∃z,w7 x y=some z∧-9223372036854775808≤z∧z≤9223372036854775807:=by
 rcases hy with rfl|rfl
 ·exact⟨x,by unfold w7;rw [if_neg (by omega),Int.tdiv_one,lI hx],hx⟩
 ·exact aJ3 hx (by omega)
theorem aIJ {s:aI} (h:ScB s.dofs s.load s.v s.rows) (hf:aAc s.dofs s.load s.v s.rows=true) (hm:s.rows.length≤4) {p:List aF} (hp:PBs 300000 p) (hpl:p.length≤1000) (hpm:s.rows.length≤p.length) {K:Nat} (hK:6000≤K) (hl:iY K=some true):iE K s p=some true∧iI K s p=some true:=by
 have hn:=h.n8
 have hrb:RsB s.rows:=fun r hr=>(h.sb.sl r hr).1
 have hA:(300000+9)*24*s.rows.length≤400000000:=by omega
 have pb:=hp.fn hpm
 have a2:=aD3 h.sb.sd (by omega) h.fbd hrb h.ir (by omega) pb (by omega) hA (show 2000≤K by omega)
 have ab:=aCx h.sb.sd h.fbd hrb h.ir pb (by omega) (by omega) (by omega) hA
 have ab':uD 40000000 (mp (yH s.dofs (qB s.load) s.rows (pn p)) s.dofs.length):=fun x hx=>(ab x hx).mono (by unfold aGO;omega)
 rw [←h.fmp] at a2
 have e1:slL p 0 (min (p.length:Int) (s.rows.length:Int))=some (mp (pn p) s.rows.length):=by
  rw [←aO9 hpm,show min (p.length:Int) (s.rows.length:Int)=((s.rows.length:Nat):Int) by omega]
  unfold slL
  rw [if_pos ⟨by omega,by omega,by omega⟩]
  simp
 obtain⟨c1,c2⟩:=aEL h hf hm ab' (by rw [bX];omega) hp hpl hK
 constructor
 ·simp only [iE,e1,oB,a2]
  by_cases e:p.length=s.rows.length
  ·simp only [qT (show(p.length:Int)=s.rows.length by omega),bS,c1,c2,oB,nF rfl,bJ,hl]
  ·simp only [qF (show(p.length:Int)≠s.rows.length by omega),bJ,hl,oB]
 ·simp only [iI,e1,oB,a2]
  by_cases e:p.length=s.rows.length
  ·simp only [qT (show(p.length:Int)=s.rows.length by omega),bS,c1,c2,oB,nF rfl,bJ,hl]
  ·simp only [qF (show(p.length:Int)≠s.rows.length by omega),bJ,hl,oB]
theorem aEK {s:aI} (h:ScB s.dofs s.load s.v s.rows) (hf:aAc s.dofs s.load s.v s.rows=true) (hm:s.rows.length≤4) {a2 a3 a4:Int} (h2:-9223372036854775808≤a2∧a2≤9223372036854775807) (h3:-9223372036854775808≤a3∧a3≤9223372036854775807) (h4:-9223372036854775808≤a4∧a4≤9223372036854775807) {K:Nat} (hK:6000≤K):∀(t i k:Nat) (x:List Rat) (p:List aF),i+t=2→t<k→XP (100+i) s.rows.length x p→∃y,PBs 300000 y∧y.length≤1000∧s.rows.length≤y.length∧d7 K a2 a3 a4 s k x p (i:Int)=some (.go y)∧d6 K a2 a3 a4 s k x p (i:Int)=some (.go y)
 |0,i,k,x,p,hi,hk,hx=>by
  obtain⟨k',rfl,_⟩:=bB hk
  have:=hx.pl
  refine⟨p,hx.pb,by omega,hx.pm,?_,?_⟩
  ·simp only [d7,dF (show¬(i:Int)<2 by omega),bJ]
  ·simp only [d6,dF (show¬(i:Int)<2 by omega),bJ]
 |t+1,i,k,x,p,hi,hk,hx=>by
  obtain⟨k',rfl,_⟩:=bB hk
  have ck1:aS (4*(i:Int))=some (4*(i:Int)):=lI (by omega)
  have ck2:aS (1+4*(i:Int))=some (1+4*(i:Int)):=lI (by omega)
  obtain⟨z,z1,z2⟩:=aQ2 (x:=a2) (y:=1+4*(i:Int)) h2 (by omega)
  obtain⟨y,y1,y2⟩:=aOy hx (by omega) z2 h3 h4
  have y3:=y2.xl
  have y4:=y2.pl
  obtain⟨c1,c2⟩:=aEL h hf hm y2.xb (by omega) y2.pb (by omega) hK
  obtain⟨u,u1,u2,u3,u4,u5⟩:=aEK h hf hm h2 h3 h4 hK t (i+1) k' y.1 y.2 (by omega) (by omega) y2
  refine⟨u,u1,u2,u3,?_,?_⟩
  ·simp only [d7,dT (show(i:Int)<2 by omega),bS,ck1,oB,ck2,z1,y1,c1,c2,nF rfl,bJ,m6 (i:=i) (by omega),u4]
  ·simp only [d6,dT (show(i:Int)<2 by omega),bS,ck1,oB,ck2,z1,y1,c1,c2,nF rfl,bJ,m6 (i:=i) (by omega),u5]
theorem aDS {l:List aA} {v a:List Rat} {p:Nat→aF}:∀t i,(∀r,i≤r→r<i+t→aFL (lE l r) v a (p r)=true)→aAN l v a p t i=true
 |0,_,_=>rfl
 |t+1,i,h=>by unfold aAN;rw [h i (by omega) (by omega),aDS t (i+1) (fun r h1 h2=>h r (by omega) (by omega))];rfl
theorem aDv {a0:List Int} {a1:Bool} {a2 a3 a4:Int} (h0:aHV a0) (h2:-9223372036854775808≤a2∧a2≤9223372036854775807) (h3:-9223372036854775808≤a3∧a3≤9223372036854775807) (h4:-9223372036854775808≤a4∧a4≤9223372036854775807):∃K,kO K a0 a1 a2 a3 a4=some true:=by
 obtain⟨s,hs,hf,hl4,hm⟩:=aNb h0 a1
 have hsb:=hs.sbd
 have hrl:=hs.rl
 have hll:=hs.ll
 have hn4:=hs.n4
 obtain⟨b,b1,b2,b3⟩:=aNI hs hsb h3
 refine(?_:Ev (fun K=>kO K a0 a1 a2 a3 a4) true).get
 unfold kO
 refine Ev.bind hm ⟨7000,fun K hK=>?_⟩
 have hl:=aOJ (K-40)
 rw [show K-40+40=K by omega] at hl
 have h:=aOu hsb (show s.rows.length≤8 by omega) hf
 have h8:∀j,j<s.dofs.length→Bd 8 (qB s.load j):=fun j hj=>hs.load _ (u8 (by omega))
 obtain⟨p1,_⟩:=aLS h hf (show s.rows.length≤5 by omega) h8 (show 6000≤K by omega)
 obtain⟨r1,r2⟩:=aLg h (show s.rows.length≤4 by omega) h8
 have bad:∀x y,gF K b.dofs b.load b.v b.rows x y=some 1:=fun x y=>by
  simp only [gF,aEj b2 (show 200≤K by omega),b3,oB,Bool.not_false,bS]
 rcases aLm (d:=s.dofs) (f:=s.load) (v:=s.v) (l:=s.rows) with hc|⟨z,hz,hc⟩
 ·have e0:∃x p,XP 100 s.rows.length x p∧wJ (s.dofs.length:Int) (0:Rat)=some x∧wJ (s.rows.length:Int) (⟨0,0⟩:aF)=some p:=by
   refine⟨_,_,⟨fun x hx=>?_,?_,fun x hx=>?_,?_,?_⟩,aBb (z:=(0:Rat)) (n:=s.dofs.length) (by omega),aBb (z:=(⟨0,0⟩:aF)) (n:=s.rows.length) (by omega)⟩
   ·obtain⟨i,hi,rfl⟩:=List.mem_map.1 hx
    exact Bd.zero.mono (by omega)
   ·rw [bX];omega
   ·obtain⟨i,hi,rfl⟩:=List.mem_map.1 hx
    exact⟨Bd.zero.mono (by omega),Bd.zero.mono (by omega)⟩
   ·rw [bX];omega
   ·rw [bX];exact Nat.le_refl _
  obtain⟨x,p,xp,m1,m2⟩:=e0
  obtain⟨y,y1,y2,y3,y4,y5⟩:=aEK h hf (by omega) h2 h3 h4 (show 6000≤K by omega) 2 0 K x p (by omega) (by omega) xp
  simp only [Int.natCast_zero] at y4 y5
  obtain⟨t1,t2⟩:=aIJ h hf (by omega) y1 y2 y3 (show 6000≤K by omega) hl
  generalize hP:aDL s.dofs s.load s.v s.rows=P at *
  have hne:P.2.2≠0:=by omega
  simp only [p1,oB,b1,bad,nF (rfl:(1:Int)=1),bJ,qF hne,nT hne,bS,m1,m2,iG,y5,t2]
 ·rw [hz] at p1 r1 r2
  have pp:∀i,i<s.rows.length→pn (mp (pz s.v s.rows z) s.rows.length) i=pz s.v s.rows z i:=fun i hi=>by
   rw [aKF (by rw [bX];exact hi)];unfold mp;simp only [List.getElem_map,List.getElem_range]
  have cv:aMe s.dofs s.load s.v s.rows (mp (yH s.dofs (qB s.load) s.rows (pz s.v s.rows z)) s.dofs.length) (mp (pz s.v s.rows z) s.rows.length)=0:=by
   unfold aMe
   rw [aDI (q:=pz s.v s.rows z) pp,decide_eq_true (bX _ _),decide_eq_true (bX _ _),decide_eq_true rfl,Bool.true_and,bS,Bool.true_and,aDS _ _ (fun r _ hr=>by rw [pp r (by omega)];exact(hc r (by omega)).law),bS]
  have xp:XP 100 s.rows.length (mp (yH s.dofs (qB s.load) s.rows (pz s.v s.rows z)) s.dofs.length) (mp (pz s.v s.rows z) s.rows.length):=⟨fun x hx=>(r1 x hx).mono (by omega),by rw [bX];omega,r2,by rw [bX];omega,by rw [bX];exact Nat.le_refl _⟩
  obtain⟨c1,_⟩:=aEL h hf (by omega) xp.xb (by rw [bX];omega) xp.pb (by rw [bX];omega) (show 6000≤K by omega)
  rw [cv] at c1
  obtain⟨y,y1,y2,y3,y4,y5⟩:=aEK h hf (by omega) h2 h3 h4 (show 6000≤K by omega) 2 0 K _ _ (by omega) (by omega) xp
  simp only [Int.natCast_zero] at y4 y5
  obtain⟨t1,t2⟩:=aIJ h hf (by omega) y1 y2 y3 (show 6000≤K by omega) hl
  simp only [p1,oB,b1,bad,nF (rfl:(1:Int)=1),bJ,qT (rfl:(0:Int)=0),bS,c1,nF (rfl:(0:Int)=0),iF,y4,t1]
end Go.Proofs.YtcjdedkdoagifaaGreat
